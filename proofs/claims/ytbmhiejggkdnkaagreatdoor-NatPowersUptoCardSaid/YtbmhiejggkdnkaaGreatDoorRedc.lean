/- redc: the walk. -/
import Derived.Test.YtbmhiejggkdnkaaGreatDoorMont
namespace Go.Proofs.YtbmhiejggkdnkaaGreatDoor
open Go.RowKit

/-- What redc answers. -/
def RedcPost (a b m n : Nat) (w : World) (e : Ending) (w' : World) : Prop :=
  ∃ x, x < m ∧ x * LB ^ n % m = a * b % m ∧ RetNum w x e w'

theorem mul_bound {x y c z : Nat} (hx : x < 4294967296) (hy : y < 4294967296) (hc : c < 4294967296) (hz : z < 4294967296) : (c + (x * y + z)) / LB < LB ∧ (x : Int) * (y : Int) ≤ 18446744065119617025 ∧ 0 ≤ (x : Int) * (y : Int) := by
  have h1 : x * y ≤ 4294967295 * 4294967295 := Nat.mul_le_mul (by omega) (by omega)
  have h2 : ((x * y : Nat) : Int) = (x : Int) * (y : Int) := Int.natCast_mul _ _
  exact ⟨by rw [LB_eq]; omega, by omega, by omega⟩

/-- The sum behind the first pass. -/
theorem redc_sum {T x b m n cr : Nat} (hT : T < 2 * m) (hm : m < LB ^ n) (hx : x < 4294967296) (hb : b < LB ^ n) (hcr : (T + x * (b % LB ^ n)) / LB ^ n = T / LB ^ n + cr) :
    cr + Dg.dg LB T n = (T + x * b) / LB ^ n ∧ (T + x * b) / LB ^ n % LB = Dg.dg LB (T + x * b) n ∧ (T + x * b) / LB ^ n / LB = Dg.dg LB (T + x * b) (n + 1) ∧ T + x * b < LB ^ (n + 2) ∧ Dg.dg LB (T + x * b) (n + 1) = (T + x * b) / LB ^ (n + 1) := by
  have hp : 0 < LB ^ n := Nat.pow_pos LBpos
  rw [Nat.mod_eq_of_lt hb] at hcr
  have e1 : LB ^ (n + 1) = LB ^ n * LB := Nat.pow_succ LB n
  have e2 : LB ^ (n + 2) = LB ^ n * LB * LB := by rw [Nat.pow_succ, e1]
  have hTn : T / LB ^ n < LB := by
    rw [Nat.div_lt_iff_lt_mul hp, Nat.mul_comm]
    have : LB ^ n * 2 ≤ LB ^ n * LB := Nat.mul_le_mul_left _ LB2
    omega
  have hdT : Dg.dg LB T n = T / LB ^ n := by unfold Dg.dg; exact Nat.mod_eq_of_lt hTn
  have hxb : x * b ≤ (LB - 1) * LB ^ n := Nat.mul_le_mul (by rw [LB_eq]; omega) (Nat.le_of_lt hb)
  have hxb2 : (LB - 1) * LB ^ n + LB ^ n = LB ^ n * LB := by rw [← Nat.succ_mul, Nat.succ_eq_add_one, Nat.sub_add_cancel LBpos, Nat.mul_comm]
  have hS : T + x * b < LB ^ (n + 2) := by
    have h1 : LB ^ n * LB * 2 ≤ LB ^ n * LB * LB := Nat.mul_le_mul_left _ LB2
    have h2 : LB ^ n * 2 ≤ LB ^ n * LB := Nat.mul_le_mul_left _ LB2
    rw [e2]; omega
  have hSd : (T + x * b) / LB ^ n / LB < LB := by
    rw [Nat.div_div_eq_div_mul, Nat.div_lt_iff_lt_mul (Nat.mul_pos hp LBpos), Nat.mul_comm LB, ← e2]; exact hS
  have e3 : (T + x * b) / LB ^ (n + 1) = (T + x * b) / LB ^ n / LB := by rw [e1, Nat.div_div_eq_div_mul]
  refine ⟨by rw [hdT, hcr]; omega, rfl, ?_, hS, ?_⟩
  · unfold Dg.dg; rw [e3, Nat.mod_eq_of_lt hSd]
  · unfold Dg.dg; rw [e3, Nat.mod_eq_of_lt hSd]

/-- The carry into the second pass. -/
theorem redc_first {S m u s0 m0 : Nat} (hs0 : s0 = Dg.dg LB S 0) (hm0 : m0 = Dg.dg LB m 0) : (S + u * (m % LB ^ 1)) / LB ^ 1 = S / LB ^ 1 + (u * m0 + s0) / LB := by
  have e1 : m % LB ^ 1 = m0 := by rw [hm0]; unfold Dg.dg; rw [Nat.pow_one, Nat.pow_zero, Nat.div_one]
  have e2 : s0 = S % LB := by rw [hs0]; unfold Dg.dg; rw [Nat.pow_zero, Nat.div_one]
  have e3 := Nat.mod_add_div S LB
  rw [e1, Nat.pow_one]
  have e4 : S + u * m0 = (u * m0 + s0) + LB * (S / LB) := by rw [e2]; omega
  rw [e4, Nat.add_mul_div_left _ _ LBpos, Nat.add_comm]
theorem redc_clear {S m u s0 kk : Nat} (hs0 : s0 = Dg.dg LB S 0) (hu : u = s0 * kk % LB) (hk : LB ∣ m * kk + 1) : LB ∣ S + u * m := by
  have e2 : s0 = S % LB := by rw [hs0]; unfold Dg.dg; rw [Nat.pow_zero, Nat.div_one]
  apply Nat.dvd_of_mod_eq_zero
  have h1 : (S + u * m) % LB = (S + S * kk * m) % LB := by
    have t1 : (S % LB * kk % LB) * m % LB = S * kk * m % LB := by rw [Nat.mod_mul_mod, Nat.mul_assoc, Nat.mod_mul_mod, ← Nat.mul_assoc]
    rw [hu, e2, Nat.add_mod, t1, ← Nat.add_mod]
  have h2 : S + S * kk * m = S * (m * kk + 1) := by rw [Nat.mul_add, Nat.mul_one, Nat.mul_assoc, Nat.mul_comm kk]; omega
  rw [h1, h2]
  exact Nat.mod_eq_zero_of_dvd (Nat.dvd_trans hk (Nat.dvd_mul_left _ _))

/-- A round's last digits, and what holds of the new number. -/
theorem redc_down {S m u n cr : Nat} (hm : m < LB ^ n) (hS : S < LB ^ (n + 2)) (hcq : (S + u * (m % LB ^ n)) / LB ^ n = S / LB ^ n + cr) :
    cr + Dg.dg LB S n + LB * Dg.dg LB S (n + 1) = (S + u * m) / LB ^ n ∧ Dg.dg LB S (n + 1) = S / LB ^ (n + 1) := by
  have hp : 0 < LB ^ n := Nat.pow_pos LBpos
  rw [Nat.mod_eq_of_lt hm] at hcq
  have e1 : S / LB ^ (n + 1) = S / LB ^ n / LB := by rw [Nat.pow_succ, Nat.div_div_eq_div_mul]
  have e2 : S / LB ^ (n + 1) < LB := by
    rw [Nat.div_lt_iff_lt_mul (Nat.pow_pos LBpos), Nat.mul_comm, ← Nat.pow_succ]; exact hS
  have e3 : Dg.dg LB S (n + 1) = S / LB ^ (n + 1) := by unfold Dg.dg; exact Nat.mod_eq_of_lt e2
  refine ⟨?_, e3⟩
  rw [hcq, e3, e1]
  unfold Dg.dg
  have := Nat.mod_add_div (S / LB ^ n) LB
  omega

/-- The new number. -/
theorem redc_new {T x b m u S i q a : Nat} (hT : T < 2 * m) (hx : x < 4294967296) (hb : b ≤ m) (hu : u < 4294967296) (hS : S = T + x * b) (hd : LB ∣ S + u * m) (hxd : x = Dg.dg LB a i) (hq : T * LB ^ i = (a % LB ^ i) * b + m * q) :
    (S + u * m) / LB < 2 * m ∧ ∃ q', (S + u * m) / LB * LB ^ (i + 1) = (a % LB ^ (i + 1)) * b + m * q' := by
  constructor
  · rw [Nat.div_lt_iff_lt_mul LBpos]
    have h1 : x * b ≤ 4294967295 * m := Nat.mul_le_mul (by omega) hb
    have h2 : u * m ≤ 4294967295 * m := Nat.mul_le_mul (by omega) (Nat.le_refl _)
    rw [LB_eq, hS]; omega
  · refine ⟨q + u * LB ^ i, ?_⟩
    rw [Dg.mod_succ, ← hxd, Nat.pow_succ, Nat.mul_comm (LB ^ i) LB, ← Nat.mul_assoc, Nat.div_mul_cancel hd, hS]
    grind

set_option maxRecDepth 100000 in
set_option maxHeartbeats 3200000 in
theorem redc_any (ao bo mo : Option Addr) (na c nb c' n d a b m kk : Nat) (w : World) (ha : Num w ao na c a) (hb : Num w bo nb c' b) (hm : Num w mo n d m) (hm0 : 0 < m) (ham : a ≤ m) (hbm : b ≤ m) (hkk : LB ∣ m * kk + 1) (hn : n ≤ 128) :
    Calls Tryz.prog 65 #[.slice ao na c, .slice bo nb c', .slice mo n d, .int .u32 kk] w (RedcPost a b m n w) := by
  have hn0 : 0 < n := by rw [hm.len]; exact (Dg.len_pos_iff LB2 m).2 hm0
  have hna : na ≤ n := by rw [ha.len, hm.len]; exact Dg.len_mono LB2 ham
  have hnb : nb ≤ n := by rw [hb.len, hm.len]; exact Dg.len_mono LB2 hbm
  have hml : m < LB ^ n := hm.lt
  have hal : a < LB ^ na := ha.lt
  have hbl : b < LB ^ nb := hb.lt
  have HM0 := Lib.hid hm0; have HAM := Lib.hid ham; have HBM := Lib.hid hbm; have HKK := Lib.hid hkk; have HML := Lib.hid hml; have HAL := Lib.hid hal; have HBL := Lib.hid hbl
  clear hm0 ham hbm hkk hml hal hbl
  go_enter Tryz.func65, Tryz.ntmps65
  go_wp2_with (refine wpList_make_row _ rfl (.tmp 22) (.tmp 22) _ rfl 74 .u32 4 Tryz.underlying52 info32 .i64 .i64 _ _ (n + 2) rfl rfl (by omega) (by omega) (by omega) (by omega) ?_; intro g w1 hg hown1 hb1)
  go_loopw [25] (fun iv wr => ∃ (i T : Nat) (f0 : Nat → Nat), i ≤ n ∧ iv = .int .i64 i ∧ Own wr .u32 74 g (n + 2) f0 ∧ Hid (T < 2 * m ∧ (∃ q, T * LB ^ i = (a % LB ^ i) * b + m * q) ∧ ∀ j, j ≤ n → f0 j = Dg.dg LB T j) ∧ Below w.heap.size w wr) (fun iv _ => n - (intOf iv).toNat)
  case atStart => exact ⟨0, 0, _, Nat.zero_le _, rfl, hown1, ⟨by have := HM0.out; omega, ⟨0, by simp [Nat.mod_one]⟩, fun j _ => (Dg.dg_zero LB j).symm⟩, hb1⟩
  case round =>
    obtain ⟨i, T, f0, hi, rfl, hown, hinv, hbel⟩ := hrel
    clear hown1
    by_cases hin : i < n
    · go_upto_if 31 with (fail)
      go_cut [12] (fun xv wx => ∃ x : Nat, xv = .int .u64 x ∧ Hid (x = Dg.dg LB a i) ∧ x < 4294967296 ∧ wr = wx)
      case first =>
        by_cases hia : i < na
        · have hca : wr.cell? ⟨blk ao, off ao + i, none⟩ = some (.int .u32 (Dg.dg LB a i : Nat)) := (ha.rd.below hbel (Nat.le_refl _)).cell i hia
          have hsa := ha.rd.sh
          obtain ⟨x, hx⟩ : ∃ x, x = Dg.dg LB a i := ⟨_, rfl⟩
          rw [← hx] at hca
          have hxl : x < 4294967296 := by rw [hx]; exact Dg.dg_lt LBpos _ _
          have HX := Lib.hid hx; clear hx
          go_wp2_with fail
          go_meet
          exact ⟨x, rfl, HX.out, hxl, rfl⟩
        · go_wp2_with fail
          go_meet
          exact ⟨0, rfl, (Dg.dg_of_lt_le LBpos HAL.out (by omega)).symm, by omega, rfl⟩
      case rest =>
        obtain ⟨x, rfl, hx, hxl, rfl⟩ := hcut
        go_wp2_with fail
        obtain ⟨wo, rfl⟩ : ∃ wo : World, wo = wr := ⟨_, rfl⟩
        go_loopw [13, 38] (fun cv jv wr => ∃ j cr : Nat, j ≤ n ∧ jv = .int .i64 j ∧ cv = .int .u64 cr ∧ cr < 4294967296 ∧ Hid ((T + x * (b % LB ^ j)) / LB ^ j = T / LB ^ j + cr) ∧ Own wr .u32 74 g (n + 2) (fun t => if t < j then Dg.dg LB (T + x * (b % LB ^ j)) t else f0 t) ∧ Below w.heap.size w wr) (fun _ jv _ => n - (intOf jv).toNat)
        case atStart => exact ⟨0, 0, Nat.zero_le _, rfl, rfl, by omega, by simp [Nat.mod_one, Hid], hown.congr fun j _ => by simp, hbel⟩
        case round =>
          obtain ⟨j, cr, hj, rfl, rfl, hcr, hcq, hown', hbel'⟩ := hrel
          by_cases hjn : j < n
          · go_upto_if 44 with (fail)
            go_cut [15] (fun yv wx => ∃ y : Nat, yv = .int .u64 y ∧ Hid (y = Dg.dg LB b j) ∧ y < 4294967296 ∧ wr = wx)
            case first =>
              by_cases hjb : j < nb
              · have hcb : wr.cell? ⟨blk bo, off bo + j, none⟩ = some (.int .u32 (Dg.dg LB b j : Nat)) := (hb.rd.below hbel' (Nat.le_refl _)).cell j hjb
                have hsb := hb.rd.sh
                obtain ⟨y, hy⟩ : ∃ y, y = Dg.dg LB b j := ⟨_, rfl⟩
                rw [← hy] at hcb
                have hyl : y < 4294967296 := by rw [hy]; exact Dg.dg_lt LBpos _ _
                have HY := Lib.hid hy; clear hy
                go_wp2_with fail
                go_meet
                exact ⟨y, rfl, HY.out, hyl, rfl⟩
              · go_wp2_with fail
                go_meet
                exact ⟨0, rfl, (Dg.dg_of_lt_le LBpos HBL.out (by omega)).symm, by omega, rfl⟩
            case rest =>
              obtain ⟨y, rfl, hy, hyl, rfl⟩ := hcut
              have hco : wr.cell? ⟨g, j, none⟩ = some (.int .u32 (Dg.dg LB T j : Nat)) := by
                have h := hown'.cell j (by omega)
                rw [if_neg (by omega), hinv.out.2.2 j (by omega)] at h; exact h
              obtain ⟨z, hz⟩ : ∃ z, z = Dg.dg LB T j := ⟨_, rfl⟩
              rw [← hz] at hco
              have hzl : z < 4294967296 := by rw [hz]; exact Dg.dg_lt LBpos T _
              have HZ := Lib.hid hz; clear hz
              have hfr := hown'.frozen j
              obtain ⟨hb1', hxy, hxy0⟩ := mul_bound hxl hyl hcr hzl
              have HB1 := Lib.hid hb1'; clear hb1'
              go_wp2_with fail
              obtain ⟨nw, hnw⟩ : ∃ nw, nw = cr + (x * y + z) := ⟨_, rfl⟩
              have hnwi : ((cr : Int) + ((x : Int) * (y : Int) + (z : Int))) = (nw : Nat) := by rw [hnw]; simp
              have hS' : T + x * (b % LB ^ (j + 1)) = T + x * (b % LB ^ j) + x * y * LB ^ j := by
                rw [Dg.mod_succ, ← hy.out, Nat.mul_add, Nat.mul_comm (LB ^ j) y, Nat.mul_assoc]
                omega
              have R := mul_step (i := j) hS' hcq.out (hnw.trans (by rw [HZ.out]))
              have hnl : nw / LB < LB := by rw [hnw]; exact HB1.out
              go_roundw
              case rel => exact ⟨j + 1, nw / LB, by omega, by go_num, by rw [hnwi]; rfl, hnl, R.2.1, own_set_int hown' (s := nw % LB) (by rw [hnwi]; rfl) (by rw [if_pos (by omega)]; exact R.1) (fun t ht hne => by
                  by_cases h1 : t < j
                  · rw [if_pos h1, if_pos (by omega)]; exact (R.2.2 t h1).symm
                  · rw [if_neg h1, if_neg (by omega)]), hbel'.setCell hg _⟩
              case measure => simp [intOf]; omega
          · obtain rfl : j = n := by omega
            clear hown hbel
            have hbn : b < LB ^ j := Nat.lt_of_lt_of_le HBL.out (Nat.pow_le_pow_right LBpos hnb)
            have F := redc_sum hinv.out.1 HML.out hxl hbn hcq.out
            obtain ⟨S, hS⟩ : ∃ S, S = T + x * b := ⟨_, rfl⟩
            rw [← hS] at F
            have hown2 : Own wr .u32 74 g (j + 2) (fun t => if t < j then Dg.dg LB S t else f0 t) := hown'.congr fun t _ => by rw [hS, Nat.mod_eq_of_lt hbn]
            have hSn : S / LB ^ j < 18446744073709551616 := by
              have h1 := F.1; have h2 := Dg.dg_lt LBpos T j
              rw [LB_eq] at h2
              rw [← h1, LB_eq]; omega
            clear hown' hcq hbn
            have hcn : wr.cell? ⟨g, j, none⟩ = some (.int .u32 (Dg.dg LB T j : Nat)) := by
              have h := hown2.cell j (by omega)
              rw [if_neg (by omega), hinv.out.2.2 j (Nat.le_refl _)] at h; exact h
            have hcn1 : wr.cell? ⟨g, j + 1, none⟩ = some (.int .u32 (f0 (j + 1) : Nat)) := by
              have h := hown2.cell (j + 1) (by omega)
              rw [if_neg (by omega)] at h; exact h
            have hc0 : wr.cell? ⟨g, 0, none⟩ = some (.int .u32 (Dg.dg LB S 0 : Nat)) := by
              have h := hown2.cell 0 (by omega)
              rw [if_pos hn0] at h; exact h
            obtain ⟨z, hz⟩ : ∃ z, z = Dg.dg LB T j := ⟨_, rfl⟩
            obtain ⟨s0, hs0⟩ : ∃ z, z = Dg.dg LB S 0 := ⟨_, rfl⟩
            obtain ⟨z1, hz1⟩ : ∃ z, z = f0 (j + 1) := ⟨_, rfl⟩
            rw [← hz] at hcn; rw [← hs0] at hc0; rw [← hz1] at hcn1
            have hzl : z < 4294967296 := by rw [hz]; exact Dg.dg_lt LBpos T _
            have hs0l : s0 < 4294967296 := by rw [hs0]; exact Dg.dg_lt LBpos S _
            have hfr0 := hown2.frozen j
            have hfr1 := hown2.frozen (j + 1)
            have hcm : wr.cell? ⟨blk mo, off mo, none⟩ = some (.int .u32 (Dg.dg LB m 0 : Nat)) := by
              have h := (hm.rd.below hbel' (Nat.le_refl _)).cell 0 hn0
              rw [Nat.add_zero] at h; exact h
            have hsm := hm.rd.sh
            obtain ⟨m0, hm0⟩ : ∃ z, z = Dg.dg LB m 0 := ⟨_, rfl⟩
            rw [← hm0] at hcm
            have hm0l : m0 < 4294967296 := by rw [hm0]; exact Dg.dg_lt LBpos m _
            have hmg : blk mo ≠ g := by have := hm.rd.lt hn0; omega
            rw [← hz] at F
            have HF := Lib.hid F; have HS := Lib.hid hS; have HZ := Lib.hid hz; have HS0 := Lib.hid hs0; have HZ1 := Lib.hid hz1; have HM00 := Lib.hid hm0; have HSN := Lib.hid hSn
            clear F hS hz hs0 hz1 hm0 hSn
            go_wp2_with fail
            have hsum : ((cr : Int) + (z : Int)) = ((S / LB ^ j : Nat) : Int) := by rw [← HF.out.1]; simp
            have hownS : Own ((wr.setCell ⟨g, j, none⟩ (.int .u32 (((cr : Int) + (z : Int)) % 4294967296))).setCell ⟨g, j + 1, none⟩ (.int .u32 (((cr : Int) + (z : Int)) / 4294967296))) .u32 74 g (j + 2) (Dg.dg LB S) := by
              refine own_set_int (h := Dg.dg LB S) (own_set_int (s := Dg.dg LB S j) (h := fun t => if t = j + 1 then f0 (j + 1) else Dg.dg LB S t) hown2 ?_ ?_ ?_) (s := Dg.dg LB S (j + 1)) ?_ rfl ?_
              · rw [hsum, ← HF.out.2.1, LB_eq]; omega
              · rw [if_neg (by omega)]
              · intro t ht hne
                by_cases h1 : t = j + 1
                · rw [if_pos h1, if_neg (by omega), h1]
                · rw [if_neg h1, if_pos (by omega)]
              · rw [hsum, ← HF.out.2.2.1, LB_eq]; omega
              · intro t ht hne
                rw [if_neg hne]
            have hbelS : Below w.heap.size w ((wr.setCell ⟨g, j, none⟩ (.int .u32 (((cr : Int) + (z : Int)) % 4294967296))).setCell ⟨g, j + 1, none⟩ (.int .u32 (((cr : Int) + (z : Int)) / 4294967296))) := (hbel'.setCell hg _).setCell hg _
            clear hcn hcn1 hc0 hfr0 hfr1 hcm hown2
            generalize ((wr.setCell ⟨g, j, none⟩ (.int .u32 (((cr : Int) + (z : Int)) % 4294967296))).setCell ⟨g, j + 1, none⟩ (.int .u32 (((cr : Int) + (z : Int)) / 4294967296))) = W2 at hownS hbelS ⊢
            clear hsum
            have hc0 : W2.cell? ⟨g, 0, none⟩ = some (.int .u32 (s0 : Nat)) := by rw [HS0.out]; exact hownS.cell 0 (by omega)
            have hcm : W2.cell? ⟨blk mo, off mo, none⟩ = some (.int .u32 (m0 : Nat)) := by
              have h := (hm.rd.below hbelS (Nat.le_refl _)).cell 0 hn0
              rw [Nat.add_zero] at h; rw [HM00.out]; exact h
            obtain ⟨u, hu⟩ : ∃ u, u = s0 * kk % 4294967296 := ⟨_, rfl⟩
            have hui : ((s0 : Int) * (kk : Int) % 4294967296) = (u : Nat) := by rw [hu, Int.natCast_emod, Int.natCast_mul]; rfl
            have hul : u < 4294967296 := by rw [hu]; exact Nat.mod_lt _ (by omega)
            rw [hui]
            obtain ⟨_, hum, hum0⟩ := mul_bound hul hm0l hul hs0l
            have hcb : (u * m0 + s0) / LB < LB := by
              have := (mul_bound hul hm0l (c := 0) (by omega) hs0l).1
              rw [Nat.zero_add] at this; exact this
            have HU := Lib.hid hu; clear hu hui
            go_quiet (fail)
            go_wp2_with fail
            have hownD := hownS.drewN nq
            have hbelD := below_drawn hbelS nq
            generalize W2.drewN nq = W3 at hownD hbelD ⊢
            clear hownS hbelS hc0 hcm
            go_loopw [13, 17] (fun cv jv wr => ∃ t cr : Nat, 1 ≤ t ∧ t ≤ j ∧ jv = .int .i64 t ∧ cv = .int .u64 cr ∧ cr < 4294967296 ∧ Hid ((S + u * (m % LB ^ t)) / LB ^ t = S / LB ^ t + cr) ∧ Own wr .u32 74 g (j + 2) (fun k => if k + 1 < t then Dg.dg LB (S + u * (m % LB ^ t)) (k + 1) else Dg.dg LB S k) ∧ Below w.heap.size w wr) (fun _ jv _ => j - (intOf jv).toNat)
            case atStart => exact ⟨1, (u * m0 + s0) / LB, Nat.le_refl _, by omega, rfl, rfl, hcb, redc_first HS0.out HM00.out, hownD.congr fun k _ => by rw [if_neg (by omega)], hbelD⟩
            case round =>
              obtain ⟨t, cr, ht1, htj, rfl, rfl, hcr, hcq, hown', hbel'⟩ := hrel
              clear hownD hbelD
              by_cases htn : t < j
              · have hcm : wr.cell? ⟨blk mo, off mo + t, none⟩ = some (.int .u32 (Dg.dg LB m t : Nat)) := (hm.rd.below hbel' (Nat.le_refl _)).cell t htn
                have hco : wr.cell? ⟨g, t, none⟩ = some (.int .u32 (Dg.dg LB S t : Nat)) := by
                  have h := hown'.cell t (by omega)
                  rw [if_neg (by omega)] at h; exact h
                obtain ⟨y, hy⟩ : ∃ y, y = Dg.dg LB m t := ⟨_, rfl⟩
                obtain ⟨z, hz⟩ : ∃ z, z = Dg.dg LB S t := ⟨_, rfl⟩
                rw [← hy] at hcm; rw [← hz] at hco
                have hyl : y < 4294967296 := by rw [hy]; exact Dg.dg_lt LBpos m _
                have hzl : z < 4294967296 := by rw [hz]; exact Dg.dg_lt LBpos S _
                have HY := Lib.hid hy; have HZ := Lib.hid hz
                clear hy hz
                obtain ⟨s, rfl⟩ : ∃ s, t = s + 1 := ⟨t - 1, by omega⟩
                obtain ⟨hb1', hxy, hxy0⟩ := mul_bound hul hyl hcr hzl
                have HB1 := Lib.hid hb1'; clear hb1'
                go_wp2_with fail
                go_quiet (fail)
                have hown2 := hown'.drewN nq
                have hbel2 := below_drawn hbel' nq
                generalize wr.drewN nq = W4 at hown2 hbel2 ⊢
                have hfr := hown2.frozen s
                have hcs := hown2.cell s (by omega)
                obtain ⟨zz, hzz⟩ : ∃ zz, zz = (if s + 1 < s + 1 then Dg.dg LB (S + u * (m % LB ^ (s + 1))) (s + 1) else Dg.dg LB S s) := ⟨_, rfl⟩
                rw [← hzz] at hcs
                clear hzz
                go_wp2_with fail
                obtain ⟨nw, hnw⟩ : ∃ nw, nw = cr + (u * y + z) := ⟨_, rfl⟩
                have hnwi : ((cr : Int) + ((u : Int) * (y : Int) + (z : Int))) = (nw : Nat) := by rw [hnw]; simp
                have hS' : S + u * (m % LB ^ (s + 1 + 1)) = S + u * (m % LB ^ (s + 1)) + u * y * LB ^ (s + 1) := by
                  rw [Dg.mod_succ, ← HY.out, Nat.mul_add, Nat.mul_comm (LB ^ (s + 1)) y, Nat.mul_assoc]
                  omega
                have R := mul_step (i := s + 1) hS' hcq.out (hnw.trans (by rw [HZ.out]))
                have hnl : nw / LB < LB := by rw [hnw]; exact HB1.out
                go_roundw
                case rel => exact ⟨s + 1 + 1, nw / LB, by omega, by omega, by go_num, by rw [hnwi]; rfl, hnl, R.2.1, own_set_int hown2 (s := nw % LB) (by rw [hnwi]; rfl) (by rw [if_pos (by omega)]; exact R.1) (fun t ht hne => by
                    by_cases h1 : t + 1 < s + 1
                    · rw [if_pos h1, if_pos (by omega)]; exact (R.2.2 (t + 1) h1).symm
                    · rw [if_neg h1, if_neg (by omega)]), hbel2.setCell hg _⟩
                case measure => simp [intOf]; omega
              · obtain rfl : t = j := by omega
                obtain ⟨s, rfl⟩ : ∃ s, t = s + 1 := ⟨t - 1, by omega⟩
                obtain ⟨q, hq⟩ := hinv.out.2.1
                have hdv := redc_clear HS0.out (HU.out.trans (by rw [LB_eq])) HKK.out
                obtain ⟨hN1, q', hq'⟩ := redc_new hinv.out.1 hxl HBM.out hul HS.out hdv hx.out hq
                have hD := redc_down HML.out HF.out.2.2.2.1 hcq.out
                have hmm : m % LB ^ (s + 1) = m := Nat.mod_eq_of_lt HML.out
                rw [hmm] at hown'
                obtain ⟨Z, hZ⟩ : ∃ Z, Z = S + u * m := ⟨_, rfl⟩
                rw [← hZ] at hN1 hq' hD hown'
                obtain ⟨z2, hz2⟩ : ∃ z, z = Dg.dg LB S (s + 1) := ⟨_, rfl⟩
                obtain ⟨z3, hz3⟩ : ∃ z, z = Dg.dg LB S (s + 1 + 1) := ⟨_, rfl⟩
                rw [← hz2, ← hz3] at hD
                have hz2l : z2 < 4294967296 := by rw [hz2]; exact Dg.dg_lt LBpos S _
                have hT1 : Z / LB / LB ^ (s + 1) ≤ 1 := by
                  have h1 := HML.out
                  have h2 : Z / LB / LB ^ (s + 1) < 2 := (Nat.div_lt_iff_lt_mul (Nat.pow_pos LBpos)).2 (by omega)
                  omega
                have hT2 : Z / LB / LB ^ (s + 1) = Z / LB ^ (s + 1) / LB := by rw [Nat.div_div_eq_div_mul, Nat.div_div_eq_div_mul, Nat.mul_comm]
                have hT3 : Z / LB ^ (s + 1) / LB = (cr + z2) / LB + z3 := by rw [← hD.1, Nat.add_mul_div_left _ _ LBpos]
                have hT4 : Z / LB ^ (s + 1) % LB = (cr + z2) % LB := by rw [← hD.1, Nat.add_mul_mod_self_left]
                have hv : z3 + (cr + z2) / 4294967296 ≤ 1 := by rw [hT2, hT3] at hT1; rw [LB_eq] at hT1; omega
                have hdn : Dg.dg LB (Z / LB) s = (cr + z2) % LB := by
                  unfold Dg.dg; rw [Nat.div_div_eq_div_mul, Nat.mul_comm LB, ← Nat.pow_succ]; exact hT4
                have hdn1 : Dg.dg LB (Z / LB) (s + 1) = z3 + (cr + z2) / LB := by
                  unfold Dg.dg; rw [hT2, hT3, LB_eq]; omega
                have hdk : ∀ k, Dg.dg LB (Z / LB) k = Dg.dg LB Z (k + 1) := fun k => by
                  unfold Dg.dg; rw [Nat.div_div_eq_div_mul, Nat.mul_comm LB, ← Nat.pow_succ]
                have hc1 := hown'.cell (s + 1) (by omega)
                have hc2 := hown'.cell (s + 1 + 1) (by omega)
                have hc0 := hown'.cell s (by omega)
                rw [if_neg (by omega), ← hz2] at hc1
                rw [if_neg (by omega), ← hz3] at hc2
                rw [if_neg (by omega)] at hc0
                have hfr0 := hown'.frozen s
                have hfr1 := hown'.frozen (s + 1)
                obtain ⟨zz, hzz⟩ : ∃ zz, zz = Dg.dg LB S s := ⟨_, rfl⟩
                rw [← hzz] at hc0
                have HDN := Lib.hid hdn; have HDN1 := Lib.hid hdn1; have HDK := Lib.hid hdk; have HN1 := Lib.hid hN1; have HQ := Lib.hid hq'; have HZ3 := Lib.hid hz3
                clear hdn hdn1 hdk hN1 hq' hq hdv hD hmm hZ hz2 hz3 hT1 hT2 hT3 hT4 hzz
                go_wp2_with fail
                have hci : ((cr : Int) + (z2 : Int)) = ((cr + z2 : Nat) : Int) := by simp
                go_roundw
                case rel =>
                  refine ⟨i + 1, Z / LB, fun k => if k ≤ s + 1 then Dg.dg LB (Z / LB) k else Dg.dg LB S k, by omega, by go_num, ?_, ⟨HN1.out, ⟨q', HQ.out⟩, fun k hk => if_pos hk⟩, (hbel'.setCell hg _).setCell hg _⟩
                  refine own_set_int (h := fun k => if k ≤ s + 1 then Dg.dg LB (Z / LB) k else Dg.dg LB S k) (own_set_int (s := Dg.dg LB (Z / LB) s) (h := fun k => if k ≤ s then Dg.dg LB (Z / LB) k else Dg.dg LB S k) hown' ?_ ?_ ?_) (s := Dg.dg LB (Z / LB) (s + 1)) ?_ ?_ ?_
                  · rw [HDN.out, LB_eq]; omega
                  · rw [if_pos (Nat.le_refl _)]
                  · intro k hk hne
                    by_cases h1 : k + 1 < s + 1
                    · rw [if_pos h1, if_pos (by omega), HDK.out]
                    · rw [if_neg h1, if_neg (by omega)]
                  · rw [HDN1.out, LB_eq]; omega
                  · rw [if_pos (Nat.le_refl _)]
                  · intro k hk hne
                    by_cases h1 : k ≤ s
                    · rw [if_pos h1, if_pos (by omega)]
                    · rw [if_neg h1, if_neg (by omega)]
                case measure => simp [intOf]; omega
    · obtain rfl : i = n := by omega
      have hrd : Rd wr .u32 (some ⟨g, 0, none⟩) (i + 1) (i + 2) (Dg.dg LB T) := (hown.rd.take (Nat.le_succ _)).congr fun k hk => hinv.out.2.2 k (by omega)
      have hTl : T < LB ^ (i + 1) := by
        have h1 := HML.out; have h2 := hinv.out.1
        have h3 : LB ^ i * 2 ≤ LB ^ i * LB := Nat.mul_le_mul_left _ LB2
        rw [Nat.pow_succ]; omega
      have hT2m : T < 2 * m := hinv.out.1
      have hTc : T * LB ^ i % m = a * b % m := by
        obtain ⟨q, hq⟩ := hinv.out.2.1
        rw [hq, Nat.mod_eq_of_lt (Nat.lt_of_lt_of_le HAL.out (Nat.pow_le_pow_right LBpos hna)), Nat.add_mul_mod_self_left]
      have HTL := Lib.hid hTl; have HT2 := Lib.hid hT2m; have HTC := Lib.hid hTc
      clear hTl hT2m hTc
      by_cases hTm : T < m
      · have hcm : cmpN T m = -1 := cmpN_lt hTm
        have HTM := Lib.hid hTm; have HCM := Lib.hid hcm; clear hTm hcm
        go_wp2_with (first
          | (go_at_call 54; refine (trim_num _ _ _ T _ hrd HTL.out).mono ?_; rintro e wt ⟨k, rfl, hnT, rfl⟩)
          | (go_at_call 48; refine (cmp_any _ _ _ _ _ _ T m _ hnT (hm.below hbel (Nat.le_refl _))).mono ?_; rintro e wt ⟨rfl, qd, rfl⟩; rw [HCM.out]))
        go_ret
        exact ⟨T, HTM.out, HTC.out, _, _, _, rfl, hnT.drewN _, below_drawn hbel _⟩
      · have hcm : 0 ≤ cmpN T m := by unfold cmpN; rw [if_neg (by omega)]; split <;> omega
        obtain ⟨cm, hcmd⟩ : ∃ cm, cm = cmpN T m := ⟨_, rfl⟩
        rw [← hcmd] at hcm
        have HCM := Lib.hid hcmd; have HTM := Lib.hid hTm; clear hcmd hTm
        go_wp2_with (first
          | (go_at_call 54; refine (trim_num _ _ _ T _ hrd HTL.out).mono ?_; rintro e wt ⟨k, rfl, hnT, rfl⟩)
          | (go_at_call 48; refine (cmp_any _ _ _ _ _ _ T m _ hnT (hm.below hbel (Nat.le_refl _))).mono ?_; rintro e wt ⟨rfl, qd, rfl⟩; rw [← HCM.out])
          | (go_at_call 36; refine (sub_any _ _ _ _ _ _ T m _ (hnT.drewN _) ((hm.below hbel (Nat.le_refl _)).drewN _) (by have := hnT.len; have := (Dg.len_le_iff LB2 T (i + 1)).2 HTL.out; omega) (by have := HTM.out; omega)).mono ?_; rintro e wt ⟨ro, rk, rc, rfl, hnR, hbR⟩))
        go_ret
        have h1 := HTM.out; have h2 := HT2.out; have h3 := HTC.out
        refine ⟨T - m, by omega, ?_, _, _, _, rfl, hnR, (below_drawn hbel _).trans (hbR.mono hbel.size)⟩
        rw [← h3]
        have h4 : T * LB ^ i = (T - m) * LB ^ i + m * LB ^ i := by rw [← Nat.add_mul]; congr 1; omega
        rw [h4, Nat.add_mul_mod_self_left]
end Go.Proofs.YtbmhiejggkdnkaaGreatDoor
