/- Inv MontPlain Mont Redc Pow PowPlain Pow2 Pow3, in one text. -/
import Derived.Test.YtjkjlbchbbpmaaaGreatDoorZN3
import Derived.Test.YtjkjlbchbbpmaaaGreatDoorZP
import Derived.Deep.LoopGhost
/- inv: the walk. -/
namespace Go.Proofs.YtjkjlbchbbpmaaaGreatDoor
open Go.RowKit

/-- A number in a slice, told by one word. -/
def NumS (w : World) (s : Sl) (v : Nat) : Prop := Num w s.a s.n s.c v
theorem NumS.below {w w' : World} {s : Sl} {v : Nat} (h : NumS w s v) (hb : Below w.heap.size w w') : NumS w' s v := Num.below h hb (Nat.le_refl _)
theorem NumS.num {w : World} {s : Sl} {v : Nat} (h : NumS w s v) : Num w s.a s.n s.c v := h

theorem one_num (w : World) (b : Nat) (hb : b = w.heap.size) : Num (w.alloc (.cells #[.int .u32 1] 60)) (some ⟨b, 0, none⟩) 1 1 1 := by
  subst hb
  have hl : Dg.len LB 1 = 1 := by rw [Dg.len_pos LB2 (by omega), Nat.div_eq_of_lt (by rw [LB_eq]; omega), Dg.len_zero]
  refine ⟨hl.symm, Sh.some _ _ _, Nat.le_refl _, by decide, fun j hj => ?_⟩
  obtain rfl : j = 0 := by omega
  have h := new_cells w #[.int .u32 1] 60 0 (.int .u32 1) rfl
  have hd : Dg.dg LB 1 0 = 1 := by unfold Dg.dg; rw [Nat.pow_zero, Nat.div_one, Nat.mod_eq_of_lt (by rw [LB_eq]; omega)]
  rw [hd]; exact h

end Go.Proofs.YtjkjlbchbbpmaaaGreatDoor
/- Montgomery's numbers: plain. -/
namespace Go.Proofs.YtjkjlbchbbpmaaaGreatDoor

/-- The next k, modulo N. -/
def nextK (m k N : Nat) : Nat := k * ((2 + m * k) % N) % N

theorem dvd_step {m k M N : Nat} (hN : M * M ∣ N) (h : M ∣ m * k + 1) : M * M ∣ m * nextK m k N + 1 := by
  -- m k' ≡ m k (2 + m k) ≡ e e - 1 modulo N
  obtain ⟨e, he⟩ := h
  obtain ⟨r, hr⟩ := hN
  have h1 : nextK m k N % N = k * (2 + m * k) % N := by
    unfold nextK
    rw [Nat.mod_mod, Nat.mul_mod_mod]
  have h2 := Nat.div_add_mod (k * (2 + m * k)) N
  have h3 := Nat.div_add_mod (nextK m k N) N
  rw [h1] at h3
  generalize k * (2 + m * k) / N = q1 at *
  generalize nextK m k N / N = q2 at *
  generalize nextK m k N = k' at *
  generalize hx : k * (2 + m * k) % N = x at *
  have key : ((M * M : Nat) : Int) ∣ ((m * k' + 1 : Nat) : Int) := by
    refine ⟨(e : Int) * e + m * r * q2 - m * r * q1, ?_⟩
    have e1 : (N : Int) = M * M * r := by exact_mod_cast hr
    have e2 : (N : Int) * q1 + x = k * (2 + m * k) := by exact_mod_cast h2
    have e3 : (N : Int) * q2 + x = k' := by exact_mod_cast h3
    have e4 : (m : Int) * k + 1 = M * e := by exact_mod_cast he
    push_cast
    have e5 : (x : Int) = k * (2 + m * k) - M * M * r * q1 := by rw [← e1]; omega
    have e6 : (k' : Int) = M * M * r * q2 + x := by rw [← e3, e1]
    have e7 : (m : Int) * (k * (2 + m * k)) + 1 = (M * e) * (M * e) := by
      rw [← e4]; grind
    rw [e6, e5]
    generalize (k : Int) * (2 + m * k) = y at *
    have e8 : (m : Int) * y = M * e * (M * e) - 1 := by omega
    have e9 : (m : Int) * (M * M * r * q2 + (y - M * M * r * q1)) + 1 = m * (M * M * r * q2 - M * M * r * q1) + m * y + 1 := by grind
    rw [e9, e8]
    grind
  exact_mod_cast key

/-- 2, 4, 16, 256, .. -/
def MM : Nat → Nat
  | 0 => 2
  | i + 1 => MM i * MM i
theorem MM_dvd : ∀ i, i ≤ 4 → MM i * MM i ∣ 4294967296
  | 0, _ => by decide
  | 1, _ => by decide
  | 2, _ => by decide
  | 3, _ => by decide
  | 4, _ => by decide
  | n + 5, h => by omega

theorem odd_dvd {m : Nat} (h : m % 2 = 1) : 2 ∣ m * 1 + 1 := by omega

end Go.Proofs.YtjkjlbchbbpmaaaGreatDoor
/- mont: the walk. -/
namespace Go.Proofs.YtjkjlbchbbpmaaaGreatDoor
open Go.RowKit

theorem and_one_u32 (x : Nat) (h : x < 4294967296) : bits BinOp.and IntKind.u32 (x : Int) 1 = ((x % 2 : Nat) : Int) := by
  have := u32_and_nat x 1 h (by omega)
  rw [nat_mask1] at this
  exact this

theorem nextK_cast (x kk N : Nat) : ((nextK x kk N : Nat) : Int) = (kk : Int) * ((2 + (x : Int) * (kk : Int)) % (N : Int)) % (N : Int) := by
  unfold nextK
  rw [Int.natCast_emod, Int.natCast_mul, Int.natCast_emod, Int.natCast_add, Int.natCast_mul]; rfl

theorem limb_rd (w : World) (b y : Nat) (hb : b = w.heap.size) (hy : y < LB) : Rd (w.alloc (.cells #[.int .u32 (y : Int)] 60)) .u32 (some ⟨b, 0, none⟩) 1 1 (Dg.dg LB y) := by
  subst hb
  refine ⟨Sh.some _ _ _, Nat.le_refl _, by decide, fun j hj => ?_⟩
  obtain rfl : j = 0 := by omega
  have h := new_cells w #[.int .u32 (y : Int)] 60 0 (.int .u32 (y : Int)) rfl
  have hd : Dg.dg LB y 0 = y := by unfold Dg.dg; rw [Nat.pow_zero, Nat.div_one, Nat.mod_eq_of_lt hy]
  rw [hd]; exact h

theorem len_lt_succ {v k : Nat} (h : v < LB ^ k * LB) : Dg.len LB v ≤ k + 1 := (Dg.len_le_iff LB2 v (k + 1)).2 (by rw [Nat.pow_succ]; exact h)

theorem Own.owns {w : World} {k : IntKind} {e g n B : Nat} {f : Nat → Nat} (h : Own w k e g n f) (hB : B ≤ g) : w.ownsRow B e 1 (.slice (some ⟨g, 0, none⟩) n n) n ((List.range n).map fun j => Value.int k (f j : Nat)) := by
  obtain ⟨cur, hh, hs, hm, hc⟩ := h
  refine ⟨by simp, .inr ⟨g, n, cur, rfl, hB, hh, Nat.le_refl _, by simpa [maxLen] using hm, by omega, ?_⟩⟩
  apply List.ext_getElem?
  intro j
  rw [List.getElem?_take, Nat.mul_one]
  by_cases hj : j < n
  · rw [if_pos hj, Array.getElem?_toList, hc j hj, List.getElem?_map, List.getElem?_range hj]; rfl
  · rw [if_neg hj, List.getElem?_eq_none (by simpa using hj)]

theorem ownsRow_shape {w : World} {B e : Nat} {v : Value} {n : Nat} {xs : List Value} (h : w.ownsRow B e 1 v n xs) (hn : 0 < n) : ∃ g cap, v = .slice (some ⟨g, 0, none⟩) n cap ∧ B ≤ g ∧ n ≤ cap ∧ cap ≤ 9223372036854775807 := by
  rcases h.2 with ⟨_, h0⟩ | ⟨g, cap, cur, hv, hg, _, hc, hm, _⟩
  · omega
  · exact ⟨g, cap, hv, hg, hc, by simpa [maxLen] using hm⟩

theorem len256_le (v k : Nat) (h : v < LB ^ k) : Dg.len 256 v ≤ 4 * k :=
  (Dg.len_le_iff (by omega) v (4 * k)).2 (by rw [Nat.pow_mul]; exact h)

/-- What is added makes the lowest byte 0. -/
theorem mont_clear {t m z x kk y : Nat} (hz : z = Dg.dg LB t 0) (hx : x = Dg.dg LB m 0) (hy : y = z * kk % 4294967296 % 256) (hdv : 256 ∣ x * kk + 1) : 256 ∣ t + m * y := by
  have h1 : z % 256 = t % 256 := by
    rw [hz]; unfold Dg.dg; rw [Nat.pow_zero, Nat.div_one, LB_eq]; omega
  have h2 : x % 256 = m % 256 := by
    rw [hx]; unfold Dg.dg; rw [Nat.pow_zero, Nat.div_one, LB_eq]; omega
  have h3 : y % 256 = z * kk % 256 := by rw [hy]; omega
  apply Nat.dvd_of_mod_eq_zero
  have h4 : (t + m * y) % 256 = (z + x * (z * kk)) % 256 := by
    rw [Nat.add_mod, Nat.mul_mod, ← h1, ← h2, h3, ← Nat.mul_mod, ← Nat.add_mod]
  have h5 : z + x * (z * kk) = z * (x * kk + 1) := by rw [Nat.mul_add, Nat.mul_one, Nat.add_comm, Nat.mul_left_comm]
  rw [h4, h5]
  exact Nat.mod_eq_zero_of_dvd (Nat.dvd_trans hdv (Nat.dvd_mul_left _ _))

theorem and_255_u32 (x : Nat) (h : x < 4294967296) : bits BinOp.and IntKind.u32 (x : Int) 255 = ((x % 256 : Nat) : Int) := by
  have := u32_and_nat x 255 h (by omega)
  rw [nat_mask8] at this
  exact this

end Go.Proofs.YtjkjlbchbbpmaaaGreatDoor
/- redc: the walk. -/
namespace Go.Proofs.YtjkjlbchbbpmaaaGreatDoor
open Go.RowKit

/-- What redc answers. -/
def RedcPost (a b m n : Nat) (w : World) (e : Ending) (w' : World) : Prop :=
  ∃ x, x < m ∧ x * LB ^ n % m = a * b % m ∧ RetNum w x e w'

theorem mul_bound {x y c z : Nat} (hx : x < 4294967296) (hy : y < 4294967296) (hc : c < 4294967296) (hz : z < 4294967296) : (c + (x * y + z)) / LB < LB ∧ (x : Int) * (y : Int) ≤ 18446744065119617025 ∧ 0 ≤ (x : Int) * (y : Int) := by
  have h1 : x * y ≤ 4294967295 * 4294967295 := Nat.mul_le_mul (by omega) (by omega)
  have h2 : ((x * y : Nat) : Int) = (x : Int) * (y : Int) := Int.natCast_mul _ _
  exact ⟨by rw [LB_eq]; omega, by omega, by omega⟩

/-- The sum behind the first pass. -/
theorem redc_sum {T x b m n cr : Nat} (hT : T < 2 * m) (hm : m < LB ^ n) (hx : x < 4294967296) (hb : b < LB ^ n) (hcr : (T + x * (b % LB ^ n)) / LB ^ n = T / LB ^ n + cr) :
    cr + Dg.dg LB T n = (T + x * b) / LB ^ n ∧ (T + x * b) / LB ^ n % LB = Dg.dg LB (T + x * b) n ∧ (T + x * b) / LB ^ n / LB = Dg.dg LB (T + x * b) (n + 1) ∧ T + x * b < LB ^ (n + 2) ∧ Dg.dg LB (T + x * b) (n + 1) = (T + x * b) / LB ^ (n + 1) := by
  have hp : 0 < LB ^ n := Nat.pow_pos LBpos
  rw [Nat.mod_eq_of_lt hb] at hcr
  have e1 : LB ^ (n + 1) = LB ^ n * LB := Nat.pow_succ LB n
  have e2 : LB ^ (n + 2) = LB ^ n * LB * LB := by rw [Nat.pow_succ, e1]
  have hTn : T / LB ^ n < LB := by
    rw [Nat.div_lt_iff_lt_mul hp, Nat.mul_comm]
    have : LB ^ n * 2 ≤ LB ^ n * LB := Nat.mul_le_mul_left _ LB2
    omega
  have hdT : Dg.dg LB T n = T / LB ^ n := by unfold Dg.dg; exact Nat.mod_eq_of_lt hTn
  have hxb : x * b ≤ (LB - 1) * LB ^ n := Nat.mul_le_mul (by rw [LB_eq]; omega) (Nat.le_of_lt hb)
  have hxb2 : (LB - 1) * LB ^ n + LB ^ n = LB ^ n * LB := by rw [← Nat.succ_mul, Nat.succ_eq_add_one, Nat.sub_add_cancel LBpos, Nat.mul_comm]
  have hS : T + x * b < LB ^ (n + 2) := by
    have h1 : LB ^ n * LB * 2 ≤ LB ^ n * LB * LB := Nat.mul_le_mul_left _ LB2
    have h2 : LB ^ n * 2 ≤ LB ^ n * LB := Nat.mul_le_mul_left _ LB2
    rw [e2]; omega
  have hSd : (T + x * b) / LB ^ n / LB < LB := by
    rw [Nat.div_div_eq_div_mul, Nat.div_lt_iff_lt_mul (Nat.mul_pos hp LBpos), Nat.mul_comm LB, ← e2]; exact hS
  have e3 : (T + x * b) / LB ^ (n + 1) = (T + x * b) / LB ^ n / LB := by rw [e1, Nat.div_div_eq_div_mul]
  refine ⟨by rw [hdT, hcr]; omega, rfl, ?_, hS, ?_⟩
  · unfold Dg.dg; rw [e3, Nat.mod_eq_of_lt hSd]
  · unfold Dg.dg; rw [e3, Nat.mod_eq_of_lt hSd]

/-- The carry into the second pass. -/
theorem redc_first {S m u s0 m0 : Nat} (hs0 : s0 = Dg.dg LB S 0) (hm0 : m0 = Dg.dg LB m 0) : (S + u * (m % LB ^ 1)) / LB ^ 1 = S / LB ^ 1 + (u * m0 + s0) / LB := by
  have e1 : m % LB ^ 1 = m0 := by rw [hm0]; unfold Dg.dg; rw [Nat.pow_one, Nat.pow_zero, Nat.div_one]
  have e2 : s0 = S % LB := by rw [hs0]; unfold Dg.dg; rw [Nat.pow_zero, Nat.div_one]
  have e3 := Nat.mod_add_div S LB
  rw [e1, Nat.pow_one]
  have e4 : S + u * m0 = (u * m0 + s0) + LB * (S / LB) := by rw [e2]; omega
  rw [e4, Nat.add_mul_div_left _ _ LBpos, Nat.add_comm]
theorem redc_clear {S m u s0 kk : Nat} (hs0 : s0 = Dg.dg LB S 0) (hu : u = s0 * kk % LB) (hk : LB ∣ m * kk + 1) : LB ∣ S + u * m := by
  have e2 : s0 = S % LB := by rw [hs0]; unfold Dg.dg; rw [Nat.pow_zero, Nat.div_one]
  apply Nat.dvd_of_mod_eq_zero
  have h1 : (S + u * m) % LB = (S + S * kk * m) % LB := by
    have t1 : (S % LB * kk % LB) * m % LB = S * kk * m % LB := by rw [Nat.mod_mul_mod, Nat.mul_assoc, Nat.mod_mul_mod, ← Nat.mul_assoc]
    rw [hu, e2, Nat.add_mod, t1, ← Nat.add_mod]
  have h2 : S + S * kk * m = S * (m * kk + 1) := by rw [Nat.mul_add, Nat.mul_one, Nat.mul_assoc, Nat.mul_comm kk]; omega
  rw [h1, h2]
  exact Nat.mod_eq_zero_of_dvd (Nat.dvd_trans hk (Nat.dvd_mul_left _ _))

/-- A round's last digits, and what holds of the new number. -/
theorem redc_down {S m u n cr : Nat} (hm : m < LB ^ n) (hS : S < LB ^ (n + 2)) (hcq : (S + u * (m % LB ^ n)) / LB ^ n = S / LB ^ n + cr) :
    cr + Dg.dg LB S n + LB * Dg.dg LB S (n + 1) = (S + u * m) / LB ^ n ∧ Dg.dg LB S (n + 1) = S / LB ^ (n + 1) := by
  have hp : 0 < LB ^ n := Nat.pow_pos LBpos
  rw [Nat.mod_eq_of_lt hm] at hcq
  have e1 : S / LB ^ (n + 1) = S / LB ^ n / LB := by rw [Nat.pow_succ, Nat.div_div_eq_div_mul]
  have e2 : S / LB ^ (n + 1) < LB := by
    rw [Nat.div_lt_iff_lt_mul (Nat.pow_pos LBpos), Nat.mul_comm, ← Nat.pow_succ]; exact hS
  have e3 : Dg.dg LB S (n + 1) = S / LB ^ (n + 1) := by unfold Dg.dg; exact Nat.mod_eq_of_lt e2
  refine ⟨?_, e3⟩
  rw [hcq, e3, e1]
  unfold Dg.dg
  have := Nat.mod_add_div (S / LB ^ n) LB
  omega

/-- The new number. -/
theorem redc_new {T x b m u S i q a : Nat} (hT : T < 2 * m) (hx : x < 4294967296) (hb : b ≤ m) (hu : u < 4294967296) (hS : S = T + x * b) (hd : LB ∣ S + u * m) (hxd : x = Dg.dg LB a i) (hq : T * LB ^ i = (a % LB ^ i) * b + m * q) :
    (S + u * m) / LB < 2 * m ∧ ∃ q', (S + u * m) / LB * LB ^ (i + 1) = (a % LB ^ (i + 1)) * b + m * q' := by
  constructor
  · rw [Nat.div_lt_iff_lt_mul LBpos]
    have h1 : x * b ≤ 4294967295 * m := Nat.mul_le_mul (by omega) hb
    have h2 : u * m ≤ 4294967295 * m := Nat.mul_le_mul (by omega) (Nat.le_refl _)
    rw [LB_eq, hS]; omega
  · refine ⟨q + u * LB ^ i, ?_⟩
    rw [Dg.mod_succ, ← hxd, Nat.pow_succ, Nat.mul_comm (LB ^ i) LB, ← Nat.mul_assoc, Nat.div_mul_cancel hd, hS]
    grind

set_option maxRecDepth 100000 in
set_option maxHeartbeats 3200000 in
theorem redc_any (ao bo mo : Option Addr) (na c nb c' n d a b m kk : Nat) (w : World) (ha : Num w ao na c a) (hb : Num w bo nb c' b) (hm : Num w mo n d m) (hm0 : 0 < m) (ham : a ≤ m) (hbm : b ≤ m) (hkk : LB ∣ m * kk + 1) (hn : n ≤ 128) :
    Calls Tryz.prog 96 #[.slice ao na c, .slice bo nb c', .slice mo n d, .int .u32 kk] w (RedcPost a b m n w) := by
  have hn0 : 0 < n := by rw [hm.len]; exact (Dg.len_pos_iff LB2 m).2 hm0
  have hna : na ≤ n := by rw [ha.len, hm.len]; exact Dg.len_mono LB2 ham
  have hnb : nb ≤ n := by rw [hb.len, hm.len]; exact Dg.len_mono LB2 hbm
  have hml : m < LB ^ n := hm.lt
  have hal : a < LB ^ na := ha.lt
  have hbl : b < LB ^ nb := hb.lt
  have HM0 := Lib.hid hm0; have HAM := Lib.hid ham; have HBM := Lib.hid hbm; have HKK := Lib.hid hkk; have HML := Lib.hid hml; have HAL := Lib.hid hal; have HBL := Lib.hid hbl
  clear hm0 ham hbm hkk hml hal hbl
  go_enter Tryz.func96, Tryz.ntmps96
  go_wp2_with (refine wpList_make_row _ rfl (.tmp 22) (.tmp 22) _ rfl 60 .u32 4 Tryz.underlying72 info32 .i64 .i64 _ _ (n + 2) rfl rfl (by omega) (by omega) (by omega) (by omega) ?_; intro g w1 hg hown1 hb1)
  go_loopw [25] (fun iv wr => ∃ (i T : Nat) (f0 : Nat → Nat), i ≤ n ∧ iv = .int .i64 i ∧ Own wr .u32 60 g (n + 2) f0 ∧ Hid (T < 2 * m ∧ (∃ q, T * LB ^ i = (a % LB ^ i) * b + m * q) ∧ ∀ j, j ≤ n → f0 j = Dg.dg LB T j) ∧ Below w.heap.size w wr) (fun iv _ => n - (intOf iv).toNat)
  case atStart => exact ⟨0, 0, _, Nat.zero_le _, rfl, hown1, ⟨by have := HM0.out; omega, ⟨0, by simp [Nat.mod_one]⟩, fun j _ => (Dg.dg_zero LB j).symm⟩, hb1⟩
  case round =>
    obtain ⟨i, T, f0, hi, rfl, hown, hinv, hbel⟩ := hrel
    clear hown1
    by_cases hin : i < n
    · go_upto_if 31 with (fail)
      go_cut [12] (fun xv wx => ∃ x : Nat, xv = .int .u64 x ∧ Hid (x = Dg.dg LB a i) ∧ x < 4294967296 ∧ wr = wx)
      case first =>
        by_cases hia : i < na
        · have hca : wr.cell? ⟨blk ao, off ao + i, none⟩ = some (.int .u32 (Dg.dg LB a i : Nat)) := (ha.rd.below hbel (Nat.le_refl _)).cell i hia
          have hsa := ha.rd.sh
          obtain ⟨x, hx⟩ : ∃ x, x = Dg.dg LB a i := ⟨_, rfl⟩
          rw [← hx] at hca
          have hxl : x < 4294967296 := by rw [hx]; exact Dg.dg_lt LBpos _ _
          have HX := Lib.hid hx; clear hx
          go_wp2_with fail
          go_meet
          exact ⟨x, rfl, HX.out, hxl, rfl⟩
        · go_wp2_with fail
          go_meet
          exact ⟨0, rfl, (Dg.dg_of_lt_le LBpos HAL.out (by omega)).symm, by omega, rfl⟩
      case rest =>
        obtain ⟨x, rfl, hx, hxl, rfl⟩ := hcut
        go_wp2_with fail
        obtain ⟨wo, rfl⟩ : ∃ wo : World, wo = wr := ⟨_, rfl⟩
        go_loopw [13, 38] (fun cv jv wr => ∃ j cr : Nat, j ≤ n ∧ jv = .int .i64 j ∧ cv = .int .u64 cr ∧ cr < 4294967296 ∧ Hid ((T + x * (b % LB ^ j)) / LB ^ j = T / LB ^ j + cr) ∧ Own wr .u32 60 g (n + 2) (fun t => if t < j then Dg.dg LB (T + x * (b % LB ^ j)) t else f0 t) ∧ Below w.heap.size w wr) (fun _ jv _ => n - (intOf jv).toNat)
        case atStart => exact ⟨0, 0, Nat.zero_le _, rfl, rfl, by omega, by simp [Nat.mod_one, Hid], hown.congr fun j _ => by simp, hbel⟩
        case round =>
          obtain ⟨j, cr, hj, rfl, rfl, hcr, hcq, hown', hbel'⟩ := hrel
          by_cases hjn : j < n
          · go_upto_if 44 with (fail)
            go_cut [15] (fun yv wx => ∃ y : Nat, yv = .int .u64 y ∧ Hid (y = Dg.dg LB b j) ∧ y < 4294967296 ∧ wr = wx)
            case first =>
              by_cases hjb : j < nb
              · have hcb : wr.cell? ⟨blk bo, off bo + j, none⟩ = some (.int .u32 (Dg.dg LB b j : Nat)) := (hb.rd.below hbel' (Nat.le_refl _)).cell j hjb
                have hsb := hb.rd.sh
                obtain ⟨y, hy⟩ : ∃ y, y = Dg.dg LB b j := ⟨_, rfl⟩
                rw [← hy] at hcb
                have hyl : y < 4294967296 := by rw [hy]; exact Dg.dg_lt LBpos _ _
                have HY := Lib.hid hy; clear hy
                go_wp2_with fail
                go_meet
                exact ⟨y, rfl, HY.out, hyl, rfl⟩
              · go_wp2_with fail
                go_meet
                exact ⟨0, rfl, (Dg.dg_of_lt_le LBpos HBL.out (by omega)).symm, by omega, rfl⟩
            case rest =>
              obtain ⟨y, rfl, hy, hyl, rfl⟩ := hcut
              have hco : wr.cell? ⟨g, j, none⟩ = some (.int .u32 (Dg.dg LB T j : Nat)) := by
                have h := hown'.cell j (by omega)
                rw [if_neg (by omega), hinv.out.2.2 j (by omega)] at h; exact h
              obtain ⟨z, hz⟩ : ∃ z, z = Dg.dg LB T j := ⟨_, rfl⟩
              rw [← hz] at hco
              have hzl : z < 4294967296 := by rw [hz]; exact Dg.dg_lt LBpos T _
              have HZ := Lib.hid hz; clear hz
              have hfr := hown'.frozen j
              obtain ⟨hb1', hxy, hxy0⟩ := mul_bound hxl hyl hcr hzl
              have HB1 := Lib.hid hb1'; clear hb1'
              go_wp2_with fail
              obtain ⟨nw, hnw⟩ : ∃ nw, nw = cr + (x * y + z) := ⟨_, rfl⟩
              have hnwi : ((cr : Int) + ((x : Int) * (y : Int) + (z : Int))) = (nw : Nat) := by rw [hnw]; simp
              have hS' : T + x * (b % LB ^ (j + 1)) = T + x * (b % LB ^ j) + x * y * LB ^ j := by
                rw [Dg.mod_succ, ← hy.out, Nat.mul_add, Nat.mul_comm (LB ^ j) y, Nat.mul_assoc]
                omega
              have R := mul_step (i := j) hS' hcq.out (hnw.trans (by rw [HZ.out]))
              have hnl : nw / LB < LB := by rw [hnw]; exact HB1.out
              go_roundw
              case rel => exact ⟨j + 1, nw / LB, by omega, by go_num, by rw [hnwi]; rfl, hnl, R.2.1, own_set_int hown' (s := nw % LB) (by rw [hnwi]; rfl) (by rw [if_pos (by omega)]; exact R.1) (fun t ht hne => by
                  by_cases h1 : t < j
                  · rw [if_pos h1, if_pos (by omega)]; exact (R.2.2 t h1).symm
                  · rw [if_neg h1, if_neg (by omega)]), hbel'.setCell hg _⟩
              case measure => simp [intOf]; omega
          · obtain rfl : j = n := by omega
            clear hown hbel
            have hbn : b < LB ^ j := Nat.lt_of_lt_of_le HBL.out (Nat.pow_le_pow_right LBpos hnb)
            have F := redc_sum hinv.out.1 HML.out hxl hbn hcq.out
            obtain ⟨S, hS⟩ : ∃ S, S = T + x * b := ⟨_, rfl⟩
            rw [← hS] at F
            have hown2 : Own wr .u32 60 g (j + 2) (fun t => if t < j then Dg.dg LB S t else f0 t) := hown'.congr fun t _ => by rw [hS, Nat.mod_eq_of_lt hbn]
            have hSn : S / LB ^ j < 18446744073709551616 := by
              have h1 := F.1; have h2 := Dg.dg_lt LBpos T j
              rw [LB_eq] at h2
              rw [← h1, LB_eq]; omega
            clear hown' hcq hbn
            have hcn : wr.cell? ⟨g, j, none⟩ = some (.int .u32 (Dg.dg LB T j : Nat)) := by
              have h := hown2.cell j (by omega)
              rw [if_neg (by omega), hinv.out.2.2 j (Nat.le_refl _)] at h; exact h
            have hcn1 : wr.cell? ⟨g, j + 1, none⟩ = some (.int .u32 (f0 (j + 1) : Nat)) := by
              have h := hown2.cell (j + 1) (by omega)
              rw [if_neg (by omega)] at h; exact h
            have hc0 : wr.cell? ⟨g, 0, none⟩ = some (.int .u32 (Dg.dg LB S 0 : Nat)) := by
              have h := hown2.cell 0 (by omega)
              rw [if_pos hn0] at h; exact h
            obtain ⟨z, hz⟩ : ∃ z, z = Dg.dg LB T j := ⟨_, rfl⟩
            obtain ⟨s0, hs0⟩ : ∃ z, z = Dg.dg LB S 0 := ⟨_, rfl⟩
            obtain ⟨z1, hz1⟩ : ∃ z, z = f0 (j + 1) := ⟨_, rfl⟩
            rw [← hz] at hcn; rw [← hs0] at hc0; rw [← hz1] at hcn1
            have hzl : z < 4294967296 := by rw [hz]; exact Dg.dg_lt LBpos T _
            have hs0l : s0 < 4294967296 := by rw [hs0]; exact Dg.dg_lt LBpos S _
            have hfr0 := hown2.frozen j
            have hfr1 := hown2.frozen (j + 1)
            have hcm : wr.cell? ⟨blk mo, off mo, none⟩ = some (.int .u32 (Dg.dg LB m 0 : Nat)) := by
              have h := (hm.rd.below hbel' (Nat.le_refl _)).cell 0 hn0
              rw [Nat.add_zero] at h; exact h
            have hsm := hm.rd.sh
            obtain ⟨m0, hm0⟩ : ∃ z, z = Dg.dg LB m 0 := ⟨_, rfl⟩
            rw [← hm0] at hcm
            have hm0l : m0 < 4294967296 := by rw [hm0]; exact Dg.dg_lt LBpos m _
            have hmg : blk mo ≠ g := by have := hm.rd.lt hn0; omega
            rw [← hz] at F
            have HF := Lib.hid F; have HS := Lib.hid hS; have HZ := Lib.hid hz; have HS0 := Lib.hid hs0; have HZ1 := Lib.hid hz1; have HM00 := Lib.hid hm0; have HSN := Lib.hid hSn
            clear F hS hz hs0 hz1 hm0 hSn
            go_wp2_with fail
            have hsum : ((cr : Int) + (z : Int)) = ((S / LB ^ j : Nat) : Int) := by rw [← HF.out.1]; simp
            have hownS : Own ((wr.setCell ⟨g, j, none⟩ (.int .u32 (((cr : Int) + (z : Int)) % 4294967296))).setCell ⟨g, j + 1, none⟩ (.int .u32 (((cr : Int) + (z : Int)) / 4294967296))) .u32 60 g (j + 2) (Dg.dg LB S) := by
              refine own_set_int (h := Dg.dg LB S) (own_set_int (s := Dg.dg LB S j) (h := fun t => if t = j + 1 then f0 (j + 1) else Dg.dg LB S t) hown2 ?_ ?_ ?_) (s := Dg.dg LB S (j + 1)) ?_ rfl ?_
              · rw [hsum, ← HF.out.2.1, LB_eq]; omega
              · rw [if_neg (by omega)]
              · intro t ht hne
                by_cases h1 : t = j + 1
                · rw [if_pos h1, if_neg (by omega), h1]
                · rw [if_neg h1, if_pos (by omega)]
              · rw [hsum, ← HF.out.2.2.1, LB_eq]; omega
              · intro t ht hne
                rw [if_neg hne]
            have hbelS : Below w.heap.size w ((wr.setCell ⟨g, j, none⟩ (.int .u32 (((cr : Int) + (z : Int)) % 4294967296))).setCell ⟨g, j + 1, none⟩ (.int .u32 (((cr : Int) + (z : Int)) / 4294967296))) := (hbel'.setCell hg _).setCell hg _
            clear hcn hcn1 hc0 hfr0 hfr1 hcm hown2
            generalize ((wr.setCell ⟨g, j, none⟩ (.int .u32 (((cr : Int) + (z : Int)) % 4294967296))).setCell ⟨g, j + 1, none⟩ (.int .u32 (((cr : Int) + (z : Int)) / 4294967296))) = W2 at hownS hbelS ⊢
            clear hsum
            have hc0 : W2.cell? ⟨g, 0, none⟩ = some (.int .u32 (s0 : Nat)) := by rw [HS0.out]; exact hownS.cell 0 (by omega)
            have hcm : W2.cell? ⟨blk mo, off mo, none⟩ = some (.int .u32 (m0 : Nat)) := by
              have h := (hm.rd.below hbelS (Nat.le_refl _)).cell 0 hn0
              rw [Nat.add_zero] at h; rw [HM00.out]; exact h
            obtain ⟨u, hu⟩ : ∃ u, u = s0 * kk % 4294967296 := ⟨_, rfl⟩
            have hui : ((s0 : Int) * (kk : Int) % 4294967296) = (u : Nat) := by rw [hu, Int.natCast_emod, Int.natCast_mul]; rfl
            have hul : u < 4294967296 := by rw [hu]; exact Nat.mod_lt _ (by omega)
            rw [hui]
            obtain ⟨_, hum, hum0⟩ := mul_bound hul hm0l hul hs0l
            have hcb : (u * m0 + s0) / LB < LB := by
              have := (mul_bound hul hm0l (c := 0) (by omega) hs0l).1
              rw [Nat.zero_add] at this; exact this
            have HU := Lib.hid hu; clear hu hui
            go_quiet (fail)
            go_wp2_with fail
            have hownD := hownS.drewN nq
            have hbelD := below_drawn hbelS nq
            generalize W2.drewN nq = W3 at hownD hbelD ⊢
            clear hownS hbelS hc0 hcm
            go_loopw [13, 17] (fun cv jv wr => ∃ t cr : Nat, 1 ≤ t ∧ t ≤ j ∧ jv = .int .i64 t ∧ cv = .int .u64 cr ∧ cr < 4294967296 ∧ Hid ((S + u * (m % LB ^ t)) / LB ^ t = S / LB ^ t + cr) ∧ Own wr .u32 60 g (j + 2) (fun k => if k + 1 < t then Dg.dg LB (S + u * (m % LB ^ t)) (k + 1) else Dg.dg LB S k) ∧ Below w.heap.size w wr) (fun _ jv _ => j - (intOf jv).toNat)
            case atStart => exact ⟨1, (u * m0 + s0) / LB, Nat.le_refl _, by omega, rfl, rfl, hcb, redc_first HS0.out HM00.out, hownD.congr fun k _ => by rw [if_neg (by omega)], hbelD⟩
            case round =>
              obtain ⟨t, cr, ht1, htj, rfl, rfl, hcr, hcq, hown', hbel'⟩ := hrel
              clear hownD hbelD
              by_cases htn : t < j
              · have hcm : wr.cell? ⟨blk mo, off mo + t, none⟩ = some (.int .u32 (Dg.dg LB m t : Nat)) := (hm.rd.below hbel' (Nat.le_refl _)).cell t htn
                have hco : wr.cell? ⟨g, t, none⟩ = some (.int .u32 (Dg.dg LB S t : Nat)) := by
                  have h := hown'.cell t (by omega)
                  rw [if_neg (by omega)] at h; exact h
                obtain ⟨y, hy⟩ : ∃ y, y = Dg.dg LB m t := ⟨_, rfl⟩
                obtain ⟨z, hz⟩ : ∃ z, z = Dg.dg LB S t := ⟨_, rfl⟩
                rw [← hy] at hcm; rw [← hz] at hco
                have hyl : y < 4294967296 := by rw [hy]; exact Dg.dg_lt LBpos m _
                have hzl : z < 4294967296 := by rw [hz]; exact Dg.dg_lt LBpos S _
                have HY := Lib.hid hy; have HZ := Lib.hid hz
                clear hy hz
                obtain ⟨s, rfl⟩ : ∃ s, t = s + 1 := ⟨t - 1, by omega⟩
                obtain ⟨hb1', hxy, hxy0⟩ := mul_bound hul hyl hcr hzl
                have HB1 := Lib.hid hb1'; clear hb1'
                go_wp2_with fail
                go_quiet (fail)
                have hown2 := hown'.drewN nq
                have hbel2 := below_drawn hbel' nq
                generalize wr.drewN nq = W4 at hown2 hbel2 ⊢
                have hfr := hown2.frozen s
                have hcs := hown2.cell s (by omega)
                obtain ⟨zz, hzz⟩ : ∃ zz, zz = (if s + 1 < s + 1 then Dg.dg LB (S + u * (m % LB ^ (s + 1))) (s + 1) else Dg.dg LB S s) := ⟨_, rfl⟩
                rw [← hzz] at hcs
                clear hzz
                go_wp2_with fail
                obtain ⟨nw, hnw⟩ : ∃ nw, nw = cr + (u * y + z) := ⟨_, rfl⟩
                have hnwi : ((cr : Int) + ((u : Int) * (y : Int) + (z : Int))) = (nw : Nat) := by rw [hnw]; simp
                have hS' : S + u * (m % LB ^ (s + 1 + 1)) = S + u * (m % LB ^ (s + 1)) + u * y * LB ^ (s + 1) := by
                  rw [Dg.mod_succ, ← HY.out, Nat.mul_add, Nat.mul_comm (LB ^ (s + 1)) y, Nat.mul_assoc]
                  omega
                have R := mul_step (i := s + 1) hS' hcq.out (hnw.trans (by rw [HZ.out]))
                have hnl : nw / LB < LB := by rw [hnw]; exact HB1.out
                go_roundw
                case rel => exact ⟨s + 1 + 1, nw / LB, by omega, by omega, by go_num, by rw [hnwi]; rfl, hnl, R.2.1, own_set_int hown2 (s := nw % LB) (by rw [hnwi]; rfl) (by rw [if_pos (by omega)]; exact R.1) (fun t ht hne => by
                    by_cases h1 : t + 1 < s + 1
                    · rw [if_pos h1, if_pos (by omega)]; exact (R.2.2 (t + 1) h1).symm
                    · rw [if_neg h1, if_neg (by omega)]), hbel2.setCell hg _⟩
                case measure => simp [intOf]; omega
              · obtain rfl : t = j := by omega
                obtain ⟨s, rfl⟩ : ∃ s, t = s + 1 := ⟨t - 1, by omega⟩
                obtain ⟨q, hq⟩ := hinv.out.2.1
                have hdv := redc_clear HS0.out (HU.out.trans (by rw [LB_eq])) HKK.out
                obtain ⟨hN1, q', hq'⟩ := redc_new hinv.out.1 hxl HBM.out hul HS.out hdv hx.out hq
                have hD := redc_down HML.out HF.out.2.2.2.1 hcq.out
                have hmm : m % LB ^ (s + 1) = m := Nat.mod_eq_of_lt HML.out
                rw [hmm] at hown'
                obtain ⟨Z, hZ⟩ : ∃ Z, Z = S + u * m := ⟨_, rfl⟩
                rw [← hZ] at hN1 hq' hD hown'
                obtain ⟨z2, hz2⟩ : ∃ z, z = Dg.dg LB S (s + 1) := ⟨_, rfl⟩
                obtain ⟨z3, hz3⟩ : ∃ z, z = Dg.dg LB S (s + 1 + 1) := ⟨_, rfl⟩
                rw [← hz2, ← hz3] at hD
                have hz2l : z2 < 4294967296 := by rw [hz2]; exact Dg.dg_lt LBpos S _
                have hT1 : Z / LB / LB ^ (s + 1) ≤ 1 := by
                  have h1 := HML.out
                  have h2 : Z / LB / LB ^ (s + 1) < 2 := (Nat.div_lt_iff_lt_mul (Nat.pow_pos LBpos)).2 (by omega)
                  omega
                have hT2 : Z / LB / LB ^ (s + 1) = Z / LB ^ (s + 1) / LB := by rw [Nat.div_div_eq_div_mul, Nat.div_div_eq_div_mul, Nat.mul_comm]
                have hT3 : Z / LB ^ (s + 1) / LB = (cr + z2) / LB + z3 := by rw [← hD.1, Nat.add_mul_div_left _ _ LBpos]
                have hT4 : Z / LB ^ (s + 1) % LB = (cr + z2) % LB := by rw [← hD.1, Nat.add_mul_mod_self_left]
                have hv : z3 + (cr + z2) / 4294967296 ≤ 1 := by rw [hT2, hT3] at hT1; rw [LB_eq] at hT1; omega
                have hdn : Dg.dg LB (Z / LB) s = (cr + z2) % LB := by
                  unfold Dg.dg; rw [Nat.div_div_eq_div_mul, Nat.mul_comm LB, ← Nat.pow_succ]; exact hT4
                have hdn1 : Dg.dg LB (Z / LB) (s + 1) = z3 + (cr + z2) / LB := by
                  unfold Dg.dg; rw [hT2, hT3, LB_eq]; omega
                have hdk : ∀ k, Dg.dg LB (Z / LB) k = Dg.dg LB Z (k + 1) := fun k => by
                  unfold Dg.dg; rw [Nat.div_div_eq_div_mul, Nat.mul_comm LB, ← Nat.pow_succ]
                have hc1 := hown'.cell (s + 1) (by omega)
                have hc2 := hown'.cell (s + 1 + 1) (by omega)
                have hc0 := hown'.cell s (by omega)
                rw [if_neg (by omega), ← hz2] at hc1
                rw [if_neg (by omega), ← hz3] at hc2
                rw [if_neg (by omega)] at hc0
                have hfr0 := hown'.frozen s
                have hfr1 := hown'.frozen (s + 1)
                obtain ⟨zz, hzz⟩ : ∃ zz, zz = Dg.dg LB S s := ⟨_, rfl⟩
                rw [← hzz] at hc0
                have HDN := Lib.hid hdn; have HDN1 := Lib.hid hdn1; have HDK := Lib.hid hdk; have HN1 := Lib.hid hN1; have HQ := Lib.hid hq'; have HZ3 := Lib.hid hz3
                clear hdn hdn1 hdk hN1 hq' hq hdv hD hmm hZ hz2 hz3 hT1 hT2 hT3 hT4 hzz
                go_wp2_with fail
                have hci : ((cr : Int) + (z2 : Int)) = ((cr + z2 : Nat) : Int) := by simp
                go_roundw
                case rel =>
                  refine ⟨i + 1, Z / LB, fun k => if k ≤ s + 1 then Dg.dg LB (Z / LB) k else Dg.dg LB S k, by omega, by go_num, ?_, ⟨HN1.out, ⟨q', HQ.out⟩, fun k hk => if_pos hk⟩, (hbel'.setCell hg _).setCell hg _⟩
                  refine own_set_int (h := fun k => if k ≤ s + 1 then Dg.dg LB (Z / LB) k else Dg.dg LB S k) (own_set_int (s := Dg.dg LB (Z / LB) s) (h := fun k => if k ≤ s then Dg.dg LB (Z / LB) k else Dg.dg LB S k) hown' ?_ ?_ ?_) (s := Dg.dg LB (Z / LB) (s + 1)) ?_ ?_ ?_
                  · rw [HDN.out, LB_eq]; omega
                  · rw [if_pos (Nat.le_refl _)]
                  · intro k hk hne
                    by_cases h1 : k + 1 < s + 1
                    · rw [if_pos h1, if_pos (by omega), HDK.out]
                    · rw [if_neg h1, if_neg (by omega)]
                  · rw [HDN1.out, LB_eq]; omega
                  · rw [if_pos (Nat.le_refl _)]
                  · intro k hk hne
                    by_cases h1 : k ≤ s
                    · rw [if_pos h1, if_pos (by omega)]
                    · rw [if_neg h1, if_neg (by omega)]
                case measure => simp [intOf]; omega
    · obtain rfl : i = n := by omega
      have hrd : Rd wr .u32 (some ⟨g, 0, none⟩) (i + 1) (i + 2) (Dg.dg LB T) := (hown.rd.take (Nat.le_succ _)).congr fun k hk => hinv.out.2.2 k (by omega)
      have hTl : T < LB ^ (i + 1) := by
        have h1 := HML.out; have h2 := hinv.out.1
        have h3 : LB ^ i * 2 ≤ LB ^ i * LB := Nat.mul_le_mul_left _ LB2
        rw [Nat.pow_succ]; omega
      have hT2m : T < 2 * m := hinv.out.1
      have hTc : T * LB ^ i % m = a * b % m := by
        obtain ⟨q, hq⟩ := hinv.out.2.1
        rw [hq, Nat.mod_eq_of_lt (Nat.lt_of_lt_of_le HAL.out (Nat.pow_le_pow_right LBpos hna)), Nat.add_mul_mod_self_left]
      have HTL := Lib.hid hTl; have HT2 := Lib.hid hT2m; have HTC := Lib.hid hTc
      clear hTl hT2m hTc
      by_cases hTm : T < m
      · have hcm : cmpN T m = -1 := cmpN_lt hTm
        have HTM := Lib.hid hTm; have HCM := Lib.hid hcm; clear hTm hcm
        go_wp2_with (first
          | (go_at_call 77; refine (trim_num _ _ _ T _ hrd HTL.out).mono ?_; rintro e wt ⟨k, rfl, hnT, rfl⟩)
          | (go_at_call 72; refine (cmp_any _ _ _ _ _ _ T m _ hnT (hm.below hbel (Nat.le_refl _))).mono ?_; rintro e wt ⟨rfl, qd, rfl⟩; rw [HCM.out]))
        go_ret
        exact ⟨T, HTM.out, HTC.out, _, _, _, rfl, hnT.drewN _, below_drawn hbel _⟩
      · have hcm : 0 ≤ cmpN T m := by unfold cmpN; rw [if_neg (by omega)]; split <;> omega
        obtain ⟨cm, hcmd⟩ : ∃ cm, cm = cmpN T m := ⟨_, rfl⟩
        rw [← hcmd] at hcm
        have HCM := Lib.hid hcmd; have HTM := Lib.hid hTm; clear hcmd hTm
        go_wp2_with (first
          | (go_at_call 77; refine (trim_num _ _ _ T _ hrd HTL.out).mono ?_; rintro e wt ⟨k, rfl, hnT, rfl⟩)
          | (go_at_call 72; refine (cmp_any _ _ _ _ _ _ T m _ hnT (hm.below hbel (Nat.le_refl _))).mono ?_; rintro e wt ⟨rfl, qd, rfl⟩; rw [← HCM.out])
          | (go_at_call 80; refine (sub_any _ _ _ _ _ _ T m _ (hnT.drewN _) ((hm.below hbel (Nat.le_refl _)).drewN _) (by have := hnT.len; have := (Dg.len_le_iff LB2 T (i + 1)).2 HTL.out; omega) (by have := HTM.out; omega)).mono ?_; rintro e wt ⟨ro, rk, rc, rfl, hnR, hbR⟩))
        go_ret
        have h1 := HTM.out; have h2 := HT2.out; have h3 := HTC.out
        refine ⟨T - m, by omega, ?_, _, _, _, rfl, hnR, (below_drawn hbel _).trans (hbR.mono hbel.size)⟩
        rw [← h3]
        have h4 : T * LB ^ i = (T - m) * LB ^ i + m * LB ^ i := by rw [← Nat.add_mul]; congr 1; omega
        rw [h4, Nat.add_mul_mod_self_left]
end Go.Proofs.YtjkjlbchbbpmaaaGreatDoor
/- pow: the walk, its closures each by a contract of its own. -/
namespace Go.Proofs.YtjkjlbchbbpmaaaGreatDoor
open Go.RowKit

/-- A variable that closures capture: a block of one cell. -/
def Bx (w : World) (g : Nat) (v : Value) (t : Nat) : Prop := w.heap[g]? = some (.cells #[v] t (0, 0))
theorem Bx.lt {w : World} {g : Nat} {v : Value} {t : Nat} (h : Bx w g v t) : g < w.heap.size := lt_of_block h
theorem Bx.below {w w' : World} {B : Nat} {g : Nat} {v : Value} {t : Nat} (h : Bx w g v t) (hb : Below B w w') (hB : w.heap.size ≤ B) : Bx w' g v t :=
  (hb.block g (Nat.lt_of_lt_of_le h.lt hB)).trans h
theorem Bx.cell {w : World} {g : Nat} {v : Value} {t : Nat} (h : Bx w g v t) : w.cell? ⟨g, 0, none⟩ = some v := cell_of_one h
theorem Bx.free {w : World} {g : Nat} {v : Value} {t : Nat} (h : Bx w g v t) : w.frozen? ⟨g, 0, none⟩ = false := free_of_one h
theorem Bx.set {w : World} {g : Nat} {v u : Value} {t : Nat} (h : Bx w g v t) : Bx (w.setCell ⟨g, 0, none⟩ u) g u t := one_setCell h
theorem Bx.drewN {w : World} {g : Nat} {v : Value} {t : Nat} (h : Bx w g v t) (q : Nat) : Bx (w.drewN q) g v t := h
theorem Bx.new (w : World) (v : Value) (t : Nat) : Bx (w.alloc (.cells #[v] t)) w.heap.size v t :=
  heap_alloc_new _ _
theorem Bx.alloc {w : World} {g : Nat} {v : Value} {t : Nat} (h : Bx w g v t) (o : Obj) : Bx (w.alloc o) g v t :=
  h.below ((Below.refl w.heap.size w).alloc (Nat.le_refl _) o) (Nat.le_refl _)

theorem prod_any {x y n k : Nat} (hx : x < LB ^ n) (hy : y < LB ^ k) : x * y < LB ^ (n + k) := by
  rw [Nat.pow_add]; exact Nat.mul_lt_mul'' hx hy

set_option maxRecDepth 100000 in
theorem times_even (xo yo mo : Option Addr) (n c n' c' k d x y m gm : Nat) (w : World) (hx : Num w xo n c x) (hy : Num w yo n' c' y) (hbx : Bx w gm (.slice mo k d) 72) (hm : Num w mo k d m) (hm0 : 0 < m) (hn : n ≤ 128) (hn' : n' ≤ 128) :
    Calls Tryz.prog 91 #[.slice xo n c, .slice yo n' c', .pointer (some ⟨gm, 0, none⟩)] w (RetNum w (x * y % m)) := by
  have hxl : x < LB ^ n := hx.lt
  have hyl : y < LB ^ n' := hy.lt
  have HXL := Lib.hid hxl; have HYL := Lib.hid hyl; have HM0 := Lib.hid hm0; clear hxl hyl hm0
  have hcm := hbx.cell
  go_enter Tryz.func91, Tryz.ntmps91
  go_wp2_with fail
  go_region_with (first
    | (go_at_call 81; refine (mul_any _ _ _ _ _ _ x y _ (hx.below (below_drawn (Below.refl w.heap.size w) _) (Nat.le_refl _)) (hy.below (below_drawn (Below.refl w.heap.size w) _) (Nat.le_refl _)) (by omega) (by omega)).mono ?_; rintro e w1 ⟨o1, n1, c1, rfl, h1, hb1'⟩; have hb1 := (below_drawn (Below.refl w.heap.size w) _).trans hb1'; have hn1 : n1 ≤ 257 := Nat.le_trans (num_len_le h1 (prod_any HXL.out HYL.out)) (by omega); have hcm1 := (hbx.below hb1 (Nat.le_refl _)).cell)
    | (go_at_call 92; refine (left_any _ _ _ _ _ _ _ m _ h1 (hm.below hb1 (Nat.le_refl _)) HM0.out (by omega)).mono ?_; rintro e w2 ⟨o2, n2, c2, rfl, h2, hb2⟩))
  all_goals (try go_wp2_with fail)
  all_goals go_ret
  all_goals exact ⟨_, _, _, rfl, h2, hb1.trans (hb2.mono hb1.size)⟩

set_option maxRecDepth 100000 in
theorem into_even (xo mo : Option Addr) (n c k d x m gm : Nat) (w : World) (hx : Num w xo n c x) (hbx : Bx w gm (.slice mo k d) 72) (hm : Num w mo k d m) (hm0 : 0 < m) (hn : n ≤ 128) :
    Calls Tryz.prog 93 #[.slice xo n c, .pointer (some ⟨gm, 0, none⟩)] w (RetNum w (x % m)) := by
  have HM0 := Lib.hid hm0; clear hm0
  have hcm := hbx.cell
  go_enter Tryz.func93, Tryz.ntmps93
  go_wp2_with fail
  refine (left_any _ _ _ _ _ _ _ m _ hx hm HM0.out (by omega)).mono ?_
  rintro e w2 ⟨o2, n2, c2, rfl, h2, hb2⟩
  go_wp2_with fail
  go_ret
  exact ⟨_, _, _, rfl, h2, hb2⟩

set_option maxRecDepth 100000 in
theorem into_odd (xo mo ro : Option Addr) (n c k d x m gm gr rn rc r : Nat) (w : World) (hx : Num w xo n c x) (hbx : Bx w gm (.slice mo k d) 72) (hbr : Bx w gr (.slice ro rn rc) 72) (hr : Num w ro rn rc r) (hrn : rn ≤ 129) (hm : Num w mo k d m) (hm0 : 0 < m) (hn : n ≤ 128) :
    Calls Tryz.prog 94 #[.slice xo n c, .pointer (some ⟨gr, 0, none⟩), .pointer (some ⟨gm, 0, none⟩)] w (RetNum w (x * r % m)) := by
  have hxl : x < LB ^ n := hx.lt
  have hrl : r < LB ^ rn := hr.lt
  have HXL := Lib.hid hxl; have HRL := Lib.hid hrl; have HM0 := Lib.hid hm0; clear hxl hrl hm0
  have hcm := hbx.cell
  have hcr := hbr.cell
  go_enter Tryz.func94, Tryz.ntmps94
  go_wp2_with fail
  go_region_with (first
    | (go_at_call 81; refine (mul_any _ _ _ _ _ _ x r _ (hx.below (below_drawn (Below.refl w.heap.size w) _) (Nat.le_refl _)) (hr.below (below_drawn (Below.refl w.heap.size w) _) (Nat.le_refl _)) (by omega) (by omega)).mono ?_; rintro e w1 ⟨o1, n1, c1, rfl, h1, hb1'⟩; have hb1 := (below_drawn (Below.refl w.heap.size w) _).trans hb1'; have hn1 : n1 ≤ 257 := Nat.le_trans (num_len_le h1 (prod_any HXL.out HRL.out)) (by omega); have hcm1 := (hbx.below hb1 (Nat.le_refl _)).cell)
    | (go_at_call 92; refine (left_any _ _ _ _ _ _ _ m _ h1 (hm.below hb1 (Nat.le_refl _)) HM0.out (by omega)).mono ?_; rintro e w2 ⟨o2, n2, c2, rfl, h2, hb2⟩))
  all_goals (try go_wp2_with fail)
  all_goals go_ret
  all_goals exact ⟨_, _, _, rfl, h2, hb1.trans (hb2.mono hb1.size)⟩

set_option maxRecDepth 100000 in
theorem times_odd (xo yo mo : Option Addr) (n c n' c' k d x y m kk gm gk : Nat) (w : World) (hx : Num w xo n c x) (hy : Num w yo n' c' y) (hbx : Bx w gm (.slice mo k d) 72) (hbk : Bx w gk (.int .u32 kk) 60) (hm : Num w mo k d m) (hm0 : 0 < m) (hxm : x ≤ m) (hym : y ≤ m) (hkk : LB ∣ m * kk + 1) (hk : k ≤ 128) :
    Calls Tryz.prog 95 #[.slice xo n c, .slice yo n' c', .pointer (some ⟨gm, 0, none⟩), .pointer (some ⟨gk, 0, none⟩)] w (RedcPost x y m k w) := by
  have HM0 := Lib.hid hm0; have HXM := Lib.hid hxm; have HYM := Lib.hid hym; have HKK := Lib.hid hkk; clear hm0 hxm hym hkk
  have hcm := hbx.cell
  have hck := hbk.cell
  go_enter Tryz.func95, Tryz.ntmps95
  go_wp2_with fail
  refine (redc_any _ _ _ _ _ _ _ _ _ x y m kk _ hx hy hm HM0.out HXM.out HYM.out HKK.out hk).mono ?_
  rintro e w2 ⟨z, hz1, hz2, o2, n2, c2, rfl, h2, hb2⟩
  have HZ1 := Lib.hid hz1; have HZ2 := Lib.hid hz2; clear hz1 hz2
  go_wp2_with fail
  go_ret
  exact ⟨z, HZ1.out, HZ2.out, _, _, _, rfl, h2, hb2⟩

set_option maxRecDepth 100000 in
theorem back_odd (xo mo : Option Addr) (n c k d x m kk gm gk : Nat) (w : World) (hx : Num w xo n c x) (hbx : Bx w gm (.slice mo k d) 72) (hbk : Bx w gk (.int .u32 kk) 60) (hm : Num w mo k d m) (hm0 : 0 < m) (hxm : x ≤ m) (hkk : LB ∣ m * kk + 1) (hk : k ≤ 128) :
    Calls Tryz.prog 97 #[.slice xo n c, .pointer (some ⟨gm, 0, none⟩), .pointer (some ⟨gk, 0, none⟩)] w (RedcPost x 1 m k w) := by
  have HM0 := Lib.hid hm0; have HXM := Lib.hid hxm; have HKK := Lib.hid hkk; clear hm0 hxm hkk
  have hcm := (hbx.alloc (.cells #[.int .u32 1] 60)).cell
  have hck := (hbk.alloc (.cells #[.int .u32 1] 60)).cell
  go_enter Tryz.func97, Tryz.ntmps97
  go_wp2_with fail
  have hbo : Below w.heap.size w (w.alloc (.cells #[.int .u32 1] 60)) := (Below.refl _ _).alloc (Nat.le_refl _) _
  refine (redc_any _ _ _ _ _ _ _ _ _ x 1 m kk _ (hx.below hbo (Nat.le_refl _)) (one_num w _ rfl) (hm.below hbo (Nat.le_refl _)) HM0.out HXM.out (by have := HM0.out; omega) HKK.out hk).mono ?_
  rintro e w2 ⟨z, hz1, hz2, o2, n2, c2, rfl, h2, hb2⟩
  have HZ1 := Lib.hid hz1; have HZ2 := Lib.hid hz2; clear hz1 hz2
  go_wp2_with fail
  go_ret
  exact ⟨z, HZ1.out, HZ2.out, _, _, _, rfl, h2, hbo.trans (hb2.mono hbo.size)⟩
end Go.Proofs.YtjkjlbchbbpmaaaGreatDoor
/- Powers: plain. -/
namespace Go.Proofs.YtjkjlbchbbpmaaaGreatDoor
open Go.RowKit

/-- A bit of a number, out of its digit. -/
theorem bit_fact {e z i : Nat} (hz : z = Dg.dg LB e (i / 32)) : bits BinOp.and IntKind.u32 ((z : Int) / 2 ^ (i % 32)) 1 = ((e / 2 ^ i % 2 : Nat) : Int) := by
  have hzl : z < 4294967296 := by rw [hz]; exact Dg.dg_lt LBpos e _
  have h1 : ((z : Int) / 2 ^ (i % 32)) = ((z / 2 ^ (i % 32) : Nat) : Int) := by simp
  rw [h1, and_one_u32 _ (Nat.lt_of_le_of_lt (Nat.div_le_self _ _) hzl)]
  congr 1
  have hs : i % 32 < 32 := Nat.mod_lt _ (by omega)
  have e1 : 2 ^ i = LB ^ (i / 32) * 2 ^ (i % 32) := by
    rw [show LB = 2 ^ 32 from rfl, ← Nat.pow_mul, ← Nat.pow_add, Nat.div_add_mod]
  rw [e1, ← Nat.div_div_eq_div_mul]
  unfold Dg.dg at hz
  generalize e / LB ^ (i / 32) = y at *
  generalize i % 32 = s at *
  have e2 : LB = 2 ^ s * (2 * 2 ^ (31 - s)) := by
    rw [show 2 * 2 ^ (31 - s) = 2 ^ (31 - s + 1) from by rw [Nat.pow_succ, Nat.mul_comm], ← Nat.pow_add, show s + (31 - s + 1) = 32 from by omega]; rfl
  have e3 : y = z + 2 ^ s * (2 * 2 ^ (31 - s) * (y / LB)) := by
    rw [← Nat.mul_assoc, ← e2, hz]; exact (Nat.mod_add_div y LB).symm
  rw [e3, Nat.add_mul_div_left _ _ (Nat.pow_pos (by omega)), Nat.mul_assoc, Nat.add_mul_mod_self_left]

theorem half_eq (e i : Nat) : e / 2 ^ i = 2 * (e / 2 ^ (i + 1)) + e / 2 ^ i % 2 := by
  rw [Nat.pow_succ, ← Nat.div_div_eq_div_mul]
  exact (Nat.div_add_mod _ _).symm

theorem pow_sq (a E m : Nat) : a ^ E % m * (a ^ E % m) % m = a ^ (2 * E) % m := by
  rw [← Nat.mul_mod, ← Nat.pow_add, Nat.two_mul]
theorem pow_sq_one (a E m : Nat) : a ^ (2 * E) % m * (a % m) % m = a ^ (2 * E + 1) % m := by
  rw [← Nat.mul_mod, Nat.pow_succ]

theorem cancel {m R x y : Nat} (h : Nat.Coprime m R) (e : x * R % m = y * R % m) (hx : x < m) (hy : y < m) : x = y := by
  have key : ∀ x y : Nat, x ≤ y → y < m → x * R % m = y * R % m → x = y := fun x y hxy hy e => by
    have h1 := Nat.sub_mod_eq_zero_of_mod_eq e.symm
    rw [← Nat.sub_mul] at h1
    have h2 := Nat.Coprime.dvd_of_dvd_mul_right h (Nat.dvd_of_mod_eq_zero h1)
    have h3 := Nat.eq_zero_of_dvd_of_lt h2 (by omega)
    omega
  rcases Nat.le_total x y with h1 | h1
  · exact key x y h1 hy e
  · exact (key y x h1 hx e.symm).symm

theorem odd_coprime {m : Nat} (h : m % 2 = 1) (k : Nat) : Nat.Coprime m (LB ^ k) := by
  have h2 : Nat.Coprime m 2 := by
    unfold Nat.Coprime
    rw [Nat.gcd_comm, Nat.gcd_rec, h, Nat.gcd_comm]
    exact Nat.gcd_one_right 2
  have h3 : Nat.Coprime m LB := by rw [show LB = 2 ^ 32 from rfl]; exact h2.pow_right 32
  exact h3.pow_right k

/-- A product within the numbers that stand R times. -/
theorem mont_mul {m R a x y z E F : Nat} (h : Nat.Coprime m R) (hz : z < m) (hx : x = R * a ^ E % m) (hy : y = R * a ^ F % m) (e : z * R % m = x * y % m) : z = R * a ^ (E + F) % m := by
  refine cancel h ?_ hz (Nat.mod_lt _ (by omega))
  rw [e, hx, hy, ← Nat.mul_mod, Nat.mod_mul_mod, Nat.pow_add]
  congr 1
  grind

theorem mont_back {m R a x z E : Nat} (h : Nat.Coprime m R) (hz : z < m) (hx : x = R * a ^ E % m) (e : z * R % m = x * 1 % m) : z = a ^ E % m := by
  refine cancel h ?_ hz (Nat.mod_lt _ (by omega))
  rw [e, hx, Nat.mul_one, Nat.mod_mod, Nat.mod_mul_mod, Nat.mul_comm]
end Go.Proofs.YtjkjlbchbbpmaaaGreatDoor
/- pow: the walk. -/
namespace Go.Proofs.YtjkjlbchbbpmaaaGreatDoor
open Go.RowKit

set_option maxRecDepth 100000 in
set_option maxHeartbeats 3200000 in
theorem pow_even (ao eo mo : Option Addr) (na ca ne ce k d a e m : Nat) (w : World) (ha : Num w ao na ca a) (he : Num w eo ne ce e) (hm : Num w mo k d m) (hm0 : 0 < m) (hev : m % 2 = 0) (hna : na ≤ 128) (hne : ne ≤ 128) (hk : k ≤ 128) :
    Calls Tryz.prog 57 #[.slice ao na ca, .slice eo ne ce, .slice mo k d] w (RetNum w (a ^ e % m)) := by
  have hk0 : 0 < k := by rw [hm.len]; exact (Dg.len_pos_iff LB2 m).2 hm0
  have hc := hm.rd.cell 0 hk0
  rw [Nat.add_zero] at hc
  have hs := hm.rd.sh
  obtain ⟨x0, hx0⟩ : ∃ x, x = Dg.dg LB m 0 := ⟨_, rfl⟩
  rw [← hx0] at hc
  have hxe : x0 % 2 = 0 := by
    rw [hx0]; unfold Dg.dg; rw [Nat.pow_zero, Nat.div_one, LB_eq]; omega
  have hxl : x0 < 4294967296 := by rw [hx0]; exact Dg.dg_lt LBpos _ _
  have HX := Lib.hid hx0; have HM0 := Lib.hid hm0; clear hx0 hm0
  have hand : bits BinOp.and IntKind.u32 (x0 : Int) 1 = 0 := by rw [and_one_u32 x0 hxl, hxe]; rfl
  have hbo : Below w.heap.size w (w.alloc (.cells #[.slice mo k d] 72)) := (Below.refl _ _).alloc (Nat.le_refl _) _
  have hbx := Bx.new w (.slice mo k d) 72
  have ha1 := ha.below hbo (Nat.le_refl _)
  have he1 := he.below hbo (Nat.le_refl _)
  have hm1 := hm.below hbo (Nat.le_refl _)
  have hcm := hbx.cell
  have hc1 : (w.alloc (.cells #[.slice mo k d] 72)).cell? ⟨blk mo, off mo, none⟩ = some (.int .u32 (x0 : Nat)) := by
    have h := hm1.rd.cell 0 hk0
    rw [Nat.add_zero, ← HX.out] at h; exact h
  have hmf : ∀ (fn : Fn) (first cap : Array Value) (w : World), (Instr.makeFunc fn first cap).run Tryz.prog w = .ok (.func fn first cap) w := fun _ _ _ _ => rfl
  go_enter Tryz.func57, Tryz.ntmps57
  go_wp2_with fail
  obtain ⟨W1, hW1⟩ : ∃ W1, W1 = w.alloc (.cells #[.slice mo k d] 72) := ⟨_, rfl⟩
  have hsz : W1.heap.size = w.heap.size + 1 := by rw [hW1]; simp
  rw [← hW1] at hbo hbx ha1 he1 hm1 hcm hc1 ⊢
  clear hW1
  have hb1 : Below W1.heap.size W1 (W1.alloc (.cells #[.int .u32 1] 60)) := (Below.refl _ _).alloc (Nat.le_refl _) _
  refine (into_even _ mo 1 1 k d 1 m w.heap.size _ (one_num W1 _ hsz.symm) (hbx.alloc _) (hm1.below hb1 (Nat.le_refl _)) HM0.out (by omega)).mono ?_
  rintro e w2 ⟨o2, n2, c2, rfl, h2, hb2⟩
  have hb12 : Below W1.heap.size W1 w2 := hb1.trans (hb2.mono hb1.size)
  go_wp2_with fail
  refine (into_even _ mo na ca k d a m w.heap.size _ (ha1.below hb12 (Nat.le_refl _)) (hbx.below hb12 (Nat.le_refl _)) (hm1.below hb12 (Nat.le_refl _)) HM0.out (by omega)).mono ?_
  rintro e w3 ⟨o3, n3, c3, rfl, h3, hb3⟩
  have hb13 : Below W1.heap.size W1 w3 := hb12.trans (hb3.mono hb12.size)
  go_wp2_with fail
  have hm3 := hm1.below hb13 (Nat.le_refl _)
  have he3 := he1.below hb13 (Nat.le_refl _)
  have hbx3 := hbx.below hb13 (Nat.le_refl _)
  have hb03 : Below w.heap.size w w3 := hbo.trans (hb13.mono hbo.size)
  have h2' := h2.below hb3 (Nat.le_refl _)
  have hel : e < LB ^ ne := he.lt
  have HEL := Lib.hid hel
  clear hc hc1 hcm hbo hbx ha1 he1 hm1 hb1 hb2 hb12 hb3 hb13 h2 hel
  go_loopw [12, 14] (fun ov iv wr => ∃ (O : Sl) (j : Nat) (x : Int), j ≤ 32 * ne ∧ x = (j : Int) - 1 ∧ iv = .int .i64 x ∧ ov = .slice O.a O.n O.c ∧ NumS wr O (a ^ (e / 2 ^ j) % m) ∧ Below w3.heap.size w3 wr) (fun _ iv _ => (intOf iv + 1).toNat)
  case atStart =>
    refine ⟨⟨o2, n2, c2⟩, 32 * ne, _, Nat.le_refl _, ?_, rfl, rfl, ?_, Below.refl _ _⟩
    · simp
    · have h0 : e / 2 ^ (32 * ne) = 0 := by
        apply Nat.div_eq_of_lt
        rw [Nat.pow_mul]; exact HEL.out
      rw [h0, Nat.pow_zero]; exact h2'
  case round =>
    obtain ⟨O, j, x, hj, hx, rfl, rfl, hO, hbel⟩ := hrel
    clear h2'
    have hOb : O.n ≤ 128 := by
      rw [hO.num.len]
      exact Nat.le_trans (Dg.len_mono LB2 (Nat.le_of_lt (Nat.mod_lt _ HM0.out))) (by rw [← hm.len]; exact hk)
    by_cases hx0 : x < 0
    · obtain rfl : j = 0 := by omega
      go_wp2_with fail
      refine (into_even _ mo _ _ k d _ m w.heap.size _ hO.num (hbx3.below hbel (Nat.le_refl _)) (hm3.below hbel (Nat.le_refl _)) HM0.out hOb).mono ?_
      rintro e4 w4 ⟨o4, n4, c4, rfl, h4, hb4⟩
      go_wp2_with fail
      go_ret
      have h5 : a ^ (e / 2 ^ 0) % m % m = a ^ e % m := by rw [Nat.pow_zero, Nat.div_one, Nat.mod_mod]
      rw [h5] at h4
      exact ⟨_, _, _, rfl, h4, hb03.trans ((hbel.trans (hb4.mono hbel.size)).mono hb03.size)⟩
    · obtain ⟨i, rfl⟩ := Int.eq_ofNat_of_zero_le (by omega : 0 ≤ x)
      obtain rfl : j = i + 1 := by omega
      clear hx hx0
      go_wp2_with fail
      refine (times_even _ _ mo _ _ _ _ k d _ _ m w.heap.size _ hO.num hO.num (hbx3.below hbel (Nat.le_refl _)) (hm3.below hbel (Nat.le_refl _)) HM0.out hOb hOb).mono ?_
      rintro e4 w4 ⟨o4, n4, c4, rfl, h4, hb4⟩
      rw [pow_sq] at h4
      have hbel4 := hbel.trans (hb4.mono hbel.size)
      have hce : w4.cell? ⟨blk eo, off eo + i / 32, none⟩ = some (.int .u32 (Dg.dg LB e (i / 32) : Nat)) := (he3.rd.below hbel4 (Nat.le_refl _)).cell (i / 32) (by omega)
      have hse := he3.rd.sh
      obtain ⟨z, hz⟩ : ∃ z, z = Dg.dg LB e (i / 32) := ⟨_, rfl⟩
      rw [← hz] at hce
      have hzl : z < 4294967296 := by rw [hz]; exact Dg.dg_lt LBpos e _
      have hb := bit_fact hz
      have hhf := half_eq e i
      obtain ⟨b, hbd⟩ : ∃ b, b = e / 2 ^ i % 2 := ⟨_, rfl⟩
      rw [← hbd] at hb hhf
      have hb2 : b < 2 := by rw [hbd]; exact Nat.mod_lt _ (by omega)
      have HHF := Lib.hid hhf; clear hz hbd hhf
      by_cases hb1 : b = 1
      · subst hb1
        go_wp2_with fail
        refine (times_even _ _ mo _ _ _ _ k d _ _ m w.heap.size _ h4 (h3.below hbel4 (Nat.le_refl _)) (hbx3.below hbel4 (Nat.le_refl _)) (hm3.below hbel4 (Nat.le_refl _)) HM0.out ?_ ?_).mono ?_
        · rw [h4.len]; exact Nat.le_trans (Dg.len_mono LB2 (Nat.le_of_lt (Nat.mod_lt _ HM0.out))) (by rw [← hm.len]; exact hk)
        · rw [h3.len]; exact Nat.le_trans (Dg.len_mono LB2 (Nat.le_of_lt (Nat.mod_lt _ HM0.out))) (by rw [← hm.len]; exact hk)
        rintro e5 w5 ⟨o5, n5, c5, rfl, h5, hb5⟩
        rw [pow_sq_one] at h5
        have hbel5 := hbel4.trans (hb5.mono hbel4.size)
        go_wp2_with fail
        go_roundw
        case rel => exact ⟨⟨o5, n5, c5⟩, i, _, by omega, rfl, rfl, rfl, by rw [HHF.out]; exact h5, hbel5⟩
        case measure => simp [intOf]
      · obtain rfl : b = 0 := by omega
        go_wp2_with fail
        go_roundw
        case rel => exact ⟨⟨o4, n4, c4⟩, i, _, by omega, rfl, rfl, rfl, by rw [HHF.out]; exact h4, hbel4⟩
        case measure => simp [intOf]
end Go.Proofs.YtjkjlbchbbpmaaaGreatDoor
/- pow: the walk for an odd modulus. -/
namespace Go.Proofs.YtjkjlbchbbpmaaaGreatDoor
open Go.RowKit

theorem Bx.other {w : World} {g : Nat} {v : Value} {t : Nat} (h : Bx w g v t) {a : Addr} {u : Value} (ha : a.block ≠ g) : Bx (w.setCell a u) g v t :=
  (Below.heap_setCell _ _ _ _ (fun e => ha e.symm)).trans h

theorem dg_pow_self (k : Nat) : Dg.dg LB (LB ^ k) k = 1 := by
  unfold Dg.dg
  rw [Nat.div_self (Nat.pow_pos LBpos)]; rfl
theorem dg_pow_other {k j : Nat} (h : j < k) : Dg.dg LB (LB ^ k) j = 0 := by
  obtain ⟨t, rfl⟩ : ∃ t, k = j + 1 + t := ⟨k - (j + 1), by omega⟩
  unfold Dg.dg
  rw [Nat.pow_add, Nat.pow_succ, Nat.mul_assoc, Nat.mul_div_cancel_left _ (Nat.pow_pos LBpos)]
  exact Nat.mul_mod_right _ _
theorem len_pow (k : Nat) : Dg.len LB (LB ^ k) = k + 1 := by
  have h1 := (Dg.len_le_iff LB2 (LB ^ k) (k + 1)).2 (by
    rw [Nat.pow_succ]
    have := Nat.mul_le_mul_left (LB ^ k) LB2
    have := Nat.pow_pos (n := k) LBpos
    omega)
  have h2 : ¬ Dg.len LB (LB ^ k) ≤ k := fun h => absurd ((Dg.len_le_iff LB2 _ _).1 h) (Nat.lt_irrefl _)
  omega

set_option maxRecDepth 100000 in
set_option maxHeartbeats 3200000 in
theorem pow_odd (ao eo mo : Option Addr) (na ca ne ce k d a e m : Nat) (w : World) (ha : Num w ao na ca a) (he : Num w eo ne ce e) (hm : Num w mo k d m) (hod : m % 2 = 1) (hna : na ≤ 128) (hne : ne ≤ 128) (hk : k ≤ 128) :
    Calls Tryz.prog 57 #[.slice ao na ca, .slice eo ne ce, .slice mo k d] w (RetNum w (a ^ e % m)) := by
  have hm0 : 0 < m := by omega
  have hk0 : 0 < k := by rw [hm.len]; exact (Dg.len_pos_iff LB2 m).2 hm0
  have hc := hm.rd.cell 0 hk0
  rw [Nat.add_zero] at hc
  have hs := hm.rd.sh
  obtain ⟨x0, hx0⟩ : ∃ x, x = Dg.dg LB m 0 := ⟨_, rfl⟩
  rw [← hx0] at hc
  have hxo : x0 % 2 = 1 := by
    rw [hx0]; unfold Dg.dg; rw [Nat.pow_zero, Nat.div_one, LB_eq]; omega
  have hxl : x0 < 4294967296 := by rw [hx0]; exact Dg.dg_lt LBpos _ _
  have HX := Lib.hid hx0; have HM0 := Lib.hid hm0; have HOD := Lib.hid hod; clear hx0 hm0 hod
  have hand : bits BinOp.and IntKind.u32 (x0 : Int) 1 = 1 := by rw [and_one_u32 x0 hxl, hxo]; rfl
  have hbo : Below w.heap.size w (w.alloc (.cells #[.slice mo k d] 72)) := (Below.refl _ _).alloc (Nat.le_refl _) _
  have hbx := Bx.new w (.slice mo k d) 72
  have ha1 := ha.below hbo (Nat.le_refl _)
  have he1 := he.below hbo (Nat.le_refl _)
  have hm1 := hm.below hbo (Nat.le_refl _)
  have hcm := hbx.cell
  have hc1 : (w.alloc (.cells #[.slice mo k d] 72)).cell? ⟨blk mo, off mo, none⟩ = some (.int .u32 (x0 : Nat)) := by
    have h := hm1.rd.cell 0 hk0
    rw [Nat.add_zero, ← HX.out] at h; exact h
  have hmf : ∀ (fn : Fn) (first cap : Array Value) (w : World), (Instr.makeFunc fn first cap).run Tryz.prog w = .ok (.func fn first cap) w := fun _ _ _ _ => rfl
  go_enter Tryz.func57, Tryz.ntmps57
  go_wp2_with fail
  obtain ⟨W1, hW1⟩ : ∃ W1, W1 = w.alloc (.cells #[.slice mo k d] 72) := ⟨_, rfl⟩
  have hsz : W1.heap.size = w.heap.size + 1 := by rw [hW1]; simp
  rw [← hW1] at hbo hbx ha1 he1 hm1 hcm hc1 ⊢
  clear hW1
  rw [← hsz]
  obtain ⟨gm, hgm⟩ : ∃ gm, gm = w.heap.size := ⟨_, rfl⟩
  rw [← hgm] at hbx hcm ⊢
  have HSZ := Lib.hid hsz; have HGM := Lib.hid hgm
  clear hc hc1 hcm hsz hgm
  go_loopw [23] (fun iv wr => ∃ i kk : Nat, i ≤ 5 ∧ iv = .int .i64 i ∧ kk < 4294967296 ∧ Hid (MM i ∣ x0 * kk + 1) ∧ Bx wr W1.heap.size (.int .u32 kk) 60 ∧ Below W1.heap.size W1 wr) (fun iv _ => 5 - (intOf iv).toNat)
  case atStart => exact ⟨0, 1, by omega, rfl, by omega, odd_dvd hxo, Bx.new _ _ _, (Below.refl _ _).alloc (Nat.le_refl _) _⟩
  case round =>
    obtain ⟨i, kk, hi, rfl, hkl, hdv, hbk, hbel⟩ := hrel
    have hmr := hm1.below hbel (Nat.le_refl _)
    have hbxr := hbx.below hbel (Nat.le_refl _)
    have hcm := hbxr.cell
    have hc1 : wr.cell? ⟨blk mo, off mo, none⟩ = some (.int .u32 (x0 : Nat)) := by
      have h := hmr.rd.cell 0 hk0
      rw [Nat.add_zero, ← HX.out] at h; exact h
    by_cases hi5 : i < 5
    · have hck := hbk.cell
      have hfk := hbk.free
      go_wp2_with fail
      go_region
      go_wp2_with fail
      go_roundw
      case rel =>
        refine ⟨i + 1, nextK x0 kk 4294967296, by omega, by go_num, Nat.mod_lt _ (by omega), dvd_step (MM_dvd i (by omega)) hdv.out, ?_, ?_⟩
        · rw [nextK_cast]; exact Bx.set hbk
        · exact hbel.drew.setCell (Nat.le_refl _) _
      case measure => simp [intOf]; omega
    · obtain rfl : i = 5 := by omega
      have hkk : LB ∣ m * kk + 1 := by
        have h1 : LB ∣ x0 * kk + 1 := hdv.out
        have h2 : x0 = m % LB := by rw [HX.out]; unfold Dg.dg; rw [Nat.pow_zero, Nat.div_one]
        have h3 := Nat.mod_add_div m LB
        rw [h2] at h1
        have h4 : m * kk + 1 = (m % LB * kk + 1) + LB * (m / LB * kk) := by
          rw [← Nat.mul_assoc]
          have h5 : m * kk = (m % LB + LB * (m / LB)) * kk := by rw [h3]
          rw [h5, Nat.add_mul]; omega
        rw [h4]
        exact Nat.dvd_add h1 (Nat.dvd_mul_right _ _)
      have HKK := Lib.hid hkk; clear hkk
      have hck := hbk.cell
      go_wp2_with (refine wpList_make_row _ rfl (.tmp 36) (.tmp 36) _ rfl 60 .u32 4 Tryz.underlying72 info32 .i64 .i64 _ _ (k + 1) rfl rfl (by omega) (by omega) (by omega) (by omega) ?_; intro g w2 hg hown2 hb2; have hbA := (Below.refl w2.heap.size w2).alloc (Nat.le_refl _) (.cells #[.slice (some ⟨g, 0, none⟩) (k + 1) (k + 1)] 72); have hcm2 := ((hbxr.below hb2 (Nat.le_refl _)).below hbA (Nat.le_refl _)).cell; have hbr2 := Bx.new w2 (.slice (some ⟨g, 0, none⟩) (k + 1) (k + 1)) 72; have hcr2 := hbr2.cell; have hownA := hown2.below hbA (Nat.le_refl _); have hcg := hownA.cell k (by omega); have hfg := hownA.frozen k; have hglt := hown2.lt; have hbelA := hb2.trans (hbA.mono hb2.size))
      have hownS := own_set_int (v := 1) hown2 (s := 1) (h := Dg.dg LB (LB ^ k)) rfl (dg_pow_self k).symm (fun j hj hne => (dg_pow_other (by omega)).symm)
      have hbelS : Below wr.heap.size wr _ := hb2.setCell (p := ⟨g, k, none⟩) hg (.int .u32 1)
      obtain ⟨WS, hWS⟩ : ∃ WS, WS = w2.setCell ⟨g, k, none⟩ (.int .u32 1) := ⟨_, rfl⟩
      have hszS : WS.heap.size = w2.heap.size := by rw [hWS]; simp [World.setCell]
      rw [← hWS] at hownS hbelS ⊢
      rw [← hszS]
      have hbrS := Bx.new WS (.slice (some ⟨g, 0, none⟩) (k + 1) (k + 1)) 72
      have hA : Below WS.heap.size WS (WS.alloc (.cells #[.slice (some ⟨g, 0, none⟩) (k + 1) (k + 1)] 72)) := (Below.refl _ _).alloc (Nat.le_refl _) _
      have hown3 := hownS.below hA (Nat.le_refl _)
      have hbel3 := hbelS.trans (hA.mono hbelS.size)
      clear hWS hcm2 hbr2 hcr2 hownA hcg hfg hbelA hbA hown2 hb2 hck hcm hc1 hownS hszS hbelS hA hglt
      obtain ⟨W3, hW3⟩ : ∃ W3, W3 = WS.alloc (.cells #[.slice (some ⟨g, 0, none⟩) (k + 1) (k + 1)] 72) := ⟨_, rfl⟩
      have hsz3 : W3.heap.size = WS.heap.size + 1 := by rw [hW3]; simp
      rw [← hW3] at hown3 hbel3 hbrS ⊢
      rw [← hsz3]
      clear hW3 
      obtain ⟨gr, hgr⟩ : ∃ gr, gr = WS.heap.size := ⟨_, rfl⟩
      obtain ⟨gk, hgk⟩ : ∃ gk, gk = W1.heap.size := ⟨_, rfl⟩
      have hb13 := hbel.trans (hbel3.mono hbel.size)
      have hbo3 : Below w.heap.size w W3 := hbo.trans (hb13.mono hbo.size)
      rw [← hgr] at hbrS ⊢
      have hbk3 := hbk.below hbel3 (Nat.le_refl _)
      rw [← hgk] at hbk3 ⊢
      clear hsz3 hgr hgk
      have hr3 : Num W3 (some ⟨g, 0, none⟩) (k + 1) (k + 1) (LB ^ k) := ⟨(len_pow k).symm, hown3.rd⟩
      have hm3 := hm1.below hb13 (Nat.le_refl _)
      have he3 := he1.below hb13 (Nat.le_refl _)
      have ha3 := ha1.below hb13 (Nat.le_refl _)
      have hbx3 := hbx.below hb13 (Nat.le_refl _)
      clear hown3 hbel3 hbel hb13 hm1 he1 ha1 hbx hmr hbxr hbk hbo hdv hi hi5
      have hb1 : Below W3.heap.size W3 (W3.alloc (.cells #[.int .u32 1] 60)) := (Below.refl _ _).alloc (Nat.le_refl _) _
      refine (into_odd _ mo _ 1 1 k d 1 m gm gr _ _ (LB ^ k) _ (one_num W3 _ rfl) (hbx3.alloc _) (hbrS.alloc _) (hr3.below hb1 (Nat.le_refl _)) (by omega) (hm3.below hb1 (Nat.le_refl _)) HM0.out (by omega)).mono ?_
      rintro e4 w4 ⟨o4, n4, c4, rfl, h4, hb4⟩
      have hb34 : Below W3.heap.size W3 w4 := hb1.trans (hb4.mono hb1.size)
      go_wp2_with fail
      refine (into_odd _ mo _ na ca k d a m gm gr _ _ (LB ^ k) _ (ha3.below hb34 (Nat.le_refl _)) (hbx3.below hb34 (Nat.le_refl _)) (hbrS.below hb34 (Nat.le_refl _)) (hr3.below hb34 (Nat.le_refl _)) (by omega) (hm3.below hb34 (Nat.le_refl _)) HM0.out (by omega)).mono ?_
      rintro e5 w5 ⟨o5, n5, c5, rfl, h5, hb5⟩
      have hb35 : Below W3.heap.size W3 w5 := hb34.trans (hb5.mono hb34.size)
      go_wp2_with fail
      have hmL := hm3.below hb35 (Nat.le_refl _)
      have heL := he3.below hb35 (Nat.le_refl _)
      have hbxL := hbx3.below hb35 (Nat.le_refl _)
      have hbkL := hbk3.below hb35 (Nat.le_refl _)
      have hb05 : Below w.heap.size w w5 := hbo3.trans (hb35.mono hbo3.size)
      have h4' := h4.below hb5 (Nat.le_refl _)
      have hel : e < LB ^ ne := he.lt
      have HEL := Lib.hid hel
      have hco := odd_coprime HOD.out k
      have HCO := Lib.hid hco
      clear hb1 hb4 hb34 hb5 hb35 h4 hm3 he3 ha3 hbx3 hbk3 hbrS hr3 hel hbo3 hco
      go_loopw [12, 14] (fun ov iv wr => ∃ (O : Sl) (j : Nat) (x : Int), j ≤ 32 * ne ∧ x = (j : Int) - 1 ∧ iv = .int .i64 x ∧ ov = .slice O.a O.n O.c ∧ NumS wr O (LB ^ k * a ^ (e / 2 ^ j) % m) ∧ Below w5.heap.size w5 wr) (fun _ iv _ => (intOf iv + 1).toNat)
      case atStart =>
        refine ⟨⟨o4, n4, c4⟩, 32 * ne, _, Nat.le_refl _, ?_, rfl, rfl, ?_, Below.refl _ _⟩
        · simp
        · have h0 : e / 2 ^ (32 * ne) = 0 := by
            apply Nat.div_eq_of_lt
            rw [Nat.pow_mul]; exact HEL.out
          rw [h0, Nat.pow_zero, Nat.mul_comm]; exact h4'
      case round =>
        obtain ⟨O, j, x, hj, hx, rfl, rfl, hO, hbel⟩ := hrel
        clear h4'
        have hml : ∀ y, y % m ≤ m := fun y => Nat.le_of_lt (Nat.mod_lt _ HM0.out)
        by_cases hx0 : x < 0
        · obtain rfl : j = 0 := by omega
          go_wp2_with fail
          refine (back_odd _ mo _ _ k d _ m kk gm gk _ hO.num (hbxL.below hbel (Nat.le_refl _)) (hbkL.below hbel (Nat.le_refl _)) (hmL.below hbel (Nat.le_refl _)) HM0.out (hml _) HKK.out hk).mono ?_
          rintro e6 w6 ⟨z, hz1, hz2, o6, n6, c6, rfl, h6, hb6⟩
          have h7 := mont_back HCO.out hz1 rfl hz2
          rw [Nat.pow_zero, Nat.div_one] at h7
          have H7 := Lib.hid h7
          clear hz1 hz2 h7
          go_wp2_with fail
          go_ret
          rw [H7.out] at h6
          exact ⟨_, _, _, rfl, h6, hb05.trans ((hbel.trans (hb6.mono hbel.size)).mono hb05.size)⟩
        · obtain ⟨i, rfl⟩ := Int.eq_ofNat_of_zero_le (by omega : 0 ≤ x)
          obtain rfl : j = i + 1 := by omega
          clear hx hx0
          go_wp2_with fail
          refine (times_odd _ _ mo _ _ _ _ k d _ _ m kk gm gk _ hO.num hO.num (hbxL.below hbel (Nat.le_refl _)) (hbkL.below hbel (Nat.le_refl _)) (hmL.below hbel (Nat.le_refl _)) HM0.out (hml _) (hml _) HKK.out hk).mono ?_
          rintro e6 w6 ⟨z6, hz1, hz2, o6, n6, c6, rfl, h6, hb6⟩
          have h7 := mont_mul HCO.out hz1 rfl rfl hz2
          rw [← Nat.two_mul] at h7
          rw [h7] at h6
          clear hz1 hz2 h7
          have hbel6 := hbel.trans (hb6.mono hbel.size)
          have hce : w6.cell? ⟨blk eo, off eo + i / 32, none⟩ = some (.int .u32 (Dg.dg LB e (i / 32) : Nat)) := (heL.rd.below hbel6 (Nat.le_refl _)).cell (i / 32) (by omega)
          have hse := heL.rd.sh
          obtain ⟨z, hz⟩ : ∃ z, z = Dg.dg LB e (i / 32) := ⟨_, rfl⟩
          rw [← hz] at hce
          have hzl : z < 4294967296 := by rw [hz]; exact Dg.dg_lt LBpos e _
          have hb := bit_fact hz
          have hhf := half_eq e i
          obtain ⟨b, hbd⟩ : ∃ b, b = e / 2 ^ i % 2 := ⟨_, rfl⟩
          rw [← hbd] at hb hhf
          have hb2 : b < 2 := by rw [hbd]; exact Nat.mod_lt _ (by omega)
          have HHF := Lib.hid hhf; clear hz hbd hhf
          by_cases hb1 : b = 1
          · subst hb1
            go_wp2_with fail
            refine (times_odd _ _ mo _ _ _ _ k d _ _ m kk gm gk _ h6 (h5.below hbel6 (Nat.le_refl _)) (hbxL.below hbel6 (Nat.le_refl _)) (hbkL.below hbel6 (Nat.le_refl _)) (hmL.below hbel6 (Nat.le_refl _)) HM0.out (hml _) (hml _) HKK.out hk).mono ?_
            rintro e7 w7 ⟨z7, hz1, hz2, o7, n7, c7, rfl, h7, hb7⟩
            have h8 := mont_mul (F := 1) HCO.out hz1 rfl (by rw [Nat.pow_one, Nat.mul_comm]) hz2
            rw [h8] at h7
            clear hz1 hz2 h8
            have hbel7 := hbel6.trans (hb7.mono hbel6.size)
            go_wp2_with fail
            go_roundw
            case rel => exact ⟨⟨o7, n7, c7⟩, i, _, by omega, rfl, rfl, rfl, by rw [HHF.out]; exact h7, hbel7⟩
            case measure => simp [intOf]
          · obtain rfl : b = 0 := by omega
            go_wp2_with fail
            go_roundw
            case rel => exact ⟨⟨o6, n6, c6⟩, i, _, by omega, rfl, rfl, rfl, by rw [HHF.out]; exact h6, hbel6⟩
            case measure => simp [intOf]

/-- A power, by any modulus. -/
theorem pow_any (ao eo mo : Option Addr) (na ca ne ce k d a e m : Nat) (w : World) (ha : Num w ao na ca a) (he : Num w eo ne ce e) (hm : Num w mo k d m) (hm0 : 0 < m) (hna : na ≤ 128) (hne : ne ≤ 128) (hk : k ≤ 128) :
    Calls Tryz.prog 57 #[.slice ao na ca, .slice eo ne ce, .slice mo k d] w (RetNum w (a ^ e % m)) := by
  rcases Nat.mod_two_eq_zero_or_one m with h | h
  · exact pow_even ao eo mo na ca ne ce k d a e m w ha he hm hm0 h hna hne hk
  · exact pow_odd ao eo mo na ca ne ce k d a e m w ha he hm h hna hne hk
end Go.Proofs.YtjkjlbchbbpmaaaGreatDoor
