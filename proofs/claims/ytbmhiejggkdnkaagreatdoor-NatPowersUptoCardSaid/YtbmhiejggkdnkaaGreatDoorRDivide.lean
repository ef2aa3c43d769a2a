/- The reference's Divide: the walk. -/
import Derived.Test.YtbmhiejggkdnkaaGreatDoorRCmp
namespace Go.Proofs.YtbmhiejggkdnkaaGreatDoor
open Go.RowKit

/-- The carry of a doubling into place i. -/
def dc (B R x i : Nat) : Nat := (2 * (R % B ^ i) + x) / B ^ i
theorem dc_zero (B R x : Nat) : dc B R x 0 = x := by simp [dc, Nat.mod_one]
theorem dc_le {B : Nat} (hB : 0 < B) (R x i : Nat) (hx : x ≤ 1) : dc B R x i ≤ 1 := by
  unfold dc
  have hp : 0 < B ^ i := Nat.pow_pos hB
  have h1 := Nat.mod_lt R hp
  have : (2 * (R % B ^ i) + x) / B ^ i < 2 := by rw [Nat.div_lt_iff_lt_mul hp]; omega
  omega
theorem dc_step {B : Nat} (hB : 0 < B) (R x i : Nat) :
    Dg.dg B (2 * R + x) i = (2 * Dg.dg B R i + dc B R x i) % B ∧ dc B R x (i + 1) = (2 * Dg.dg B R i + dc B R x i) / B := by
  have hp : 0 < B ^ i := Nat.pow_pos hB
  constructor
  · have e1 := Nat.mod_add_div R (B ^ i)
    have e : 2 * R + x = (2 * (R % B ^ i) + x) + B ^ i * (2 * (R / B ^ i)) := by rw [Nat.mul_left_comm]; omega
    show (2 * R + x) / B ^ i % B = _
    rw [e, Nat.add_mul_div_left _ _ hp]
    show (dc B R x i + 2 * (R / B ^ i)) % B = (2 * (R / B ^ i % B) + dc B R x i) % B
    rw [Nat.add_comm, Nat.add_mod, Nat.mul_mod, Nat.add_mod (2 * (R / B ^ i % B)), Nat.mul_mod 2 (R / B ^ i % B), Nat.mod_mod]
  · have e : 2 * (R % B ^ (i + 1)) + x = (2 * (R % B ^ i) + x) + B ^ i * (2 * Dg.dg B R i) := by
      rw [Dg.mod_succ, Nat.mul_left_comm]; omega
    show (2 * (R % B ^ (i + 1)) + x) / B ^ (i + 1) = _
    rw [e, Nat.pow_succ, ← Nat.div_div_eq_div_mul, Nat.add_mul_div_left _ _ hp, Nat.add_comm]
    rfl

/-- One binary digit more. -/
theorem div_bit (a b t : Nat) (hb : 0 < b) {R Q T : Nat} (hR : R = a / 2 ^ (t + 1) % b) (hQ : Q = a / 2 ^ (t + 1) / b * 2 ^ (t + 1)) (hT : T = 2 * R + Dg.dg 2 a t) :
    T < 2 * b ∧ (T < b → a / 2 ^ t / b * 2 ^ t = Q ∧ a / 2 ^ t % b = T) ∧ (b ≤ T → a / 2 ^ t / b * 2 ^ t = Q + 2 ^ t ∧ a / 2 ^ t % b = T - b) := by
  have hbl : Dg.dg 2 a t < 2 := Dg.dg_lt (by omega) _ _
  have e0 : a / 2 ^ t = 2 * (a / 2 ^ (t + 1)) + Dg.dg 2 a t := by
    unfold Dg.dg
    rw [Nat.pow_succ, ← Nat.div_div_eq_div_mul]
    exact (Nat.div_add_mod _ _).symm
  have e1 := Nat.div_add_mod (a / 2 ^ (t + 1)) b
  have hRl := Nat.mod_lt (a / 2 ^ (t + 1)) hb
  rw [← hR] at e1 hRl
  have e2 : a / 2 ^ t = b * (2 * (a / 2 ^ (t + 1) / b)) + T := by
    rw [e0, hT, Nat.mul_left_comm]; omega
  refine ⟨by omega, fun h => ⟨?_, ?_⟩, fun h => ⟨?_, ?_⟩⟩
  · rw [e2, Nat.mul_add_div hb, Nat.div_eq_of_lt h, hQ, Nat.pow_succ]
    simp only [Nat.add_zero, Nat.mul_comm, Nat.mul_left_comm, Nat.mul_assoc]
  · rw [e2, Nat.mul_add_mod, Nat.mod_eq_of_lt h]
  · have e3 : T / b = 1 := by rw [Nat.div_eq_sub_div hb h, Nat.div_eq_of_lt (by omega)]
    rw [e2, Nat.mul_add_div hb, e3, hQ, Nat.pow_succ, Nat.add_mul, Nat.one_mul]
    congr 1
    simp only [Nat.mul_comm, Nat.mul_left_comm, Nat.mul_assoc]
  · rw [e2, Nat.mul_add_mod, Nat.mod_eq_sub_mod h, Nat.mod_eq_of_lt (by omega)]

/-- The quotient's digit, raised. -/
theorem quo_bit (Q t : Nat) (hQ : Q % 2 ^ (t + 1) = 0) : Dg.dg DB Q (t / 16) + 2 ^ (t % 16) < 65536 ∧ 2 ^ (t % 16) * DB ^ (t / 16) = 2 ^ t := by
  have e1 : DB ^ (t / 16) = 2 ^ (16 * (t / 16)) := by rw [show DB = 2 ^ 16 from rfl, ← Nat.pow_mul]
  have e2 : 2 ^ (t % 16) * DB ^ (t / 16) = 2 ^ t := by rw [e1, ← Nat.pow_add, Nat.mod_add_div]
  refine ⟨?_, e2⟩
  obtain ⟨u, hu⟩ := Nat.dvd_of_mod_eq_zero hQ
  have e3 : 2 ^ (t + 1) = 2 ^ (t % 16 + 1) * DB ^ (t / 16) := by rw [Nat.pow_succ, ← e2, Nat.pow_succ]; simp only [Nat.mul_comm, Nat.mul_left_comm]
  have hp : 0 < DB ^ (t / 16) := Nat.pow_pos DBpos
  have hr : t % 16 < 16 := Nat.mod_lt _ (by omega)
  obtain ⟨s, hs⟩ : ∃ s, t % 16 + 1 + s = 16 := ⟨15 - t % 16, by omega⟩
  have e4 : (65536 : Nat) = 2 ^ (t % 16 + 1) * 2 ^ s := by rw [← Nat.pow_add, hs]
  have e5 : Dg.dg DB Q (t / 16) = 2 ^ (t % 16 + 1) * (u % 2 ^ s) := by
    unfold Dg.dg
    rw [hu, e3, show 2 ^ (t % 16 + 1) * DB ^ (t / 16) * u = DB ^ (t / 16) * (2 ^ (t % 16 + 1) * u) from by simp only [Nat.mul_comm, Nat.mul_left_comm], Nat.mul_div_cancel_left _ hp, DB_eq, e4, Nat.mul_mod_mul_left]
  have h6 : u % 2 ^ s + 1 ≤ 2 ^ s := Nat.mod_lt _ (Nat.pow_pos (by omega))
  have h7 : 2 ^ (t % 16 + 1) * (u % 2 ^ s) + 2 ^ (t % 16 + 1) ≤ 2 ^ (t % 16 + 1) * 2 ^ s := by rw [← Nat.mul_succ]; exact Nat.mul_le_mul_left _ h6
  have h8 : 2 ^ (t % 16) < 2 ^ (t % 16 + 1) := Nat.pow_lt_pow_right (by omega) (Nat.lt_succ_self _)
  rw [e5]
  omega

theorem drawn_eq (w : World) (a b : Nat) : (w.drewN a).drewN b = w.drewN (a + b) := by simp

theorem shl_val (z s : Nat) (h : z + 2 ^ s < 65536) : IntKind.u64.wrap ((z : Int) + IntKind.u64.wrap (2 ^ s)) = ((z + 2 ^ s : Nat) : Int) := by
  have e : ((2 : Int) ^ s) = ((2 ^ s : Nat) : Int) := by simp
  rw [e, IntKind.wrap_u64, IntKind.wrap_u64]
  generalize 2 ^ s = y at *
  omega

/-- Two results: a quotient and what is left. -/
def RetRDiv (w : World) (x y : Nat) (e : Ending) (w' : World) : Prop :=
  ∃ qo qn qc ro rn rc, e = .returned (.tuple #[.slice qo qn qc, .slice ro rn rc]) ∧ RN w' qo qn qc x ∧ RN w' ro rn rc y ∧ Below w.heap.size w w'

set_option maxRecDepth 100000 in
set_option maxHeartbeats 3200000 in
theorem rdiv_any (ao bo : Option Addr) (n c m d a b : Nat) (w : World) (ha : RN w ao n c a) (hb : RN w bo m d b) (hb0 : 0 < b) (hn : n ≤ 10000000) (hm : m ≤ 10000000) :
    Calls Tryz.prog 34 #[.slice ao n c, .slice bo m d] w (RetRDiv w (a / b) (a % b)) := by
  have hal : a < DB ^ n := ha.lt
  have hbl : b < DB ^ m := hb.lt
  obtain ⟨M, hM⟩ : ∃ M, M = m + 1 := ⟨_, rfl⟩
  have hb2 : 2 * b ≤ DB ^ M := by
    rw [hM, Nat.pow_succ, Nat.mul_comm 2 b]
    exact Nat.mul_le_mul (Nat.le_of_lt hbl) DB2
  have hbm : b < DB ^ M := Nat.lt_of_lt_of_le hbl (Nat.pow_le_pow_right DBpos (by omega))
  have hM1 : M ≤ m + 1 := by omega
  have hM2 : m + 1 ≤ M := by omega
  have HBM := Lib.hid hbm
  clear hM hbm
  have ha2 : a < 2 ^ Dg.len 2 a := Dg.lt_pow_len (by omega) a
  have hl16 : Dg.len 2 a ≤ 16 * n := (Dg.len_le_iff (by omega) a (16 * n)).2 (by rwa [show DB = 2 ^ 16 from rfl, ← Nat.pow_mul] at hal)
  obtain ⟨L, hL⟩ : ∃ L, L = Dg.len 2 a := ⟨_, rfl⟩
  rw [← hL] at ha2 hl16
  have HL := Lib.hid hL; have HAL := Lib.hid hal; have HBL := Lib.hid hbl; have HB2 := Lib.hid hb2; have HA2 := Lib.hid ha2; have HB0 := Lib.hid hb0
  clear hL hal hbl hb2 ha2 hb0
  go_enter Tryz.func34, Tryz.ntmps34
  go_wp2_with (first
    | (refine wpList_make_row _ rfl (.tmp 18) (.tmp 18) _ rfl 30 .u64 8 Tryz.underlying28 info64 .i64 .i64 _ _ n rfl rfl (by omega) (by omega) (by omega) (by omega) ?_; intro gq w1 hgq hown1 hb1)
    | (refine wpList_make_row _ rfl (.tmp 22) (.tmp 22) _ rfl 30 .u64 8 Tryz.underlying28 info64 .i64 .i64 _ _ M rfl rfl (by omega) (by omega) (by omega) (by omega) ?_; intro gr w2 hgr hown2 hb2)
    | (go_at_call 44; refine (bits_any ao n c a _ ((ha.below hb1 (Nat.le_refl _)).below hb2 (Nat.le_refl _)) (by omega)).mono ?_; rintro e w' ⟨rfl, rfl⟩; rw [← HL.out]))
  have hgqr : gq ≠ gr := by have := hown1.lt; omega
  have hgr1 : w.heap.size ≤ gr := Nat.le_trans hb1.size hgr
  have hbel0 : Below w.heap.size w w2 := hb1.trans (hb2.mono hb1.size)
  have hq0 : Own w2 .u64 30 gq n (Dg.dg DB (a / 2 ^ L / b * 2 ^ L)) := (hown1.below hb2 (Nat.le_refl _)).congr fun j _ => by rw [Nat.div_eq_of_lt HA2.out, Nat.zero_div, Nat.zero_mul, Dg.dg_zero]
  have hr0 : Own w2 .u64 30 gr M (Dg.dg DB (a / 2 ^ L % b)) := hown2.congr fun j _ => by rw [Nat.div_eq_of_lt HA2.out, Nat.zero_mod, Dg.dg_zero]
  clear hown1 hown2 hb1 hb2
  go_loopw [8] (fun kv wr => ∃ k : Nat, k ≤ L ∧ kv = .int .i64 ((k : Int) - 1) ∧ Own wr .u64 30 gq n (Dg.dg DB (a / 2 ^ k / b * 2 ^ k)) ∧ Own wr .u64 30 gr M (Dg.dg DB (a / 2 ^ k % b)) ∧ Below w.heap.size w wr) (fun kv _ => (intOf kv + 1).toNat)
  case atStart => exact ⟨L, Nat.le_refl _, rfl, hq0, hr0, hbel0⟩
  case round =>
    obtain ⟨k, hk, rfl, hq, hr, hbel⟩ := hrel
    clear hq0 hr0 hbel0
    by_cases h0 : 0 < k
    · obtain ⟨t, rfl⟩ : ∃ t, k = t + 1 := ⟨k - 1, by omega⟩
      obtain ⟨R, hR⟩ : ∃ R, R = a / 2 ^ (t + 1) % b := ⟨_, rfl⟩
      obtain ⟨Q, hQ⟩ : ∃ Q, Q = a / 2 ^ (t + 1) / b * 2 ^ (t + 1) := ⟨_, rfl⟩
      obtain ⟨x, hx⟩ : ∃ x, x = Dg.dg 2 a t := ⟨_, rfl⟩
      obtain ⟨T, hT⟩ : ∃ T, T = 2 * R + x := ⟨_, rfl⟩
      have hxl : x < 2 := by rw [hx]; exact Dg.dg_lt (by omega) _ _
      have D := div_bit a b t HB0.out hR hQ (T := T) (by rw [hT, hx])
      have QB := quo_bit Q t (by rw [hQ]; exact Nat.mul_mod_left _ _)
      rw [← hR] at hr
      rw [← hQ] at hq
      have hTl : T < DB ^ M := Nat.lt_of_lt_of_le D.1 HB2.out
      have HX := Lib.hid hx; have HT := Lib.hid hT; have HD := Lib.hid D; have HQB := Lib.hid QB; have HTL := Lib.hid hTl
      clear hR hQ hx hT D QB hTl
      go_wp2_with (go_at_call 45; refine (bit_any ao n c a t _ (ha.below hbel (Nat.le_refl _)) (by omega)).mono ?_; rintro e w' ⟨rfl, rfl⟩; rw [← HX.out])
      obtain ⟨wo, rfl⟩ : ∃ wo : World, wo = wr := ⟨_, rfl⟩
      go_loopw [9, 10] (fun cv iv wr => ∃ i cr : Nat, i ≤ M ∧ iv = .int .i64 i ∧ cv = .int .u64 cr ∧ cr ≤ 1 ∧ Hid (cr = dc DB R x i) ∧ Own wr .u64 30 gr M (fun j => if j < i then Dg.dg DB T j else Dg.dg DB R j) ∧ Own wr .u64 30 gq n (Dg.dg DB Q) ∧ Below w.heap.size w wr) (fun _ iv _ => M - (intOf iv).toNat)
      case atStart => exact ⟨0, x, Nat.zero_le _, rfl, rfl, by omega, (dc_zero _ _ _).symm, hr.congr fun j _ => by simp, hq, hbel⟩
      case round =>
        obtain ⟨i, cr, hi, rfl, rfl, hcr1, hcr, hr, hq, hbel⟩ := hrel
        by_cases him : i < M
        · have hcl : wr.cell? ⟨gr, i, none⟩ = some (.int .u64 (Dg.dg DB R i : Nat)) := by have h := hr.cell i him; simpa using h
          obtain ⟨y, hy⟩ : ∃ y, y = Dg.dg DB R i := ⟨_, rfl⟩
          rw [← hy] at hcl
          have hyl : y < 65536 := by rw [hy]; exact Dg.dg_lt DBpos _ _
          have S := dc_step DBpos R x i
          rw [← hy, ← hcr.out, ← HT.out] at S
          have HS := Lib.hid S; clear hy S
          have hfr := hr.frozen i
          go_wp2_with fail
          go_roundw
          case rel => exact ⟨i + 1, (2 * y + cr) / DB, by omega, by go_num, by rw [DB_eq]; simp, by rw [DB_eq]; omega, HS.out.2.symm, own_set_int hr (s := (2 * y + cr) % DB) (by rw [DB_eq]; simp) (by rw [if_pos (by omega)]; exact HS.out.1.symm) (fun j hj hne => by
              by_cases h1 : j < i
              · rw [if_pos h1, if_pos (by omega)]
              · rw [if_neg h1, if_neg (by omega)]), hq.other _ hgqr, hbel.setCell hgr1 _⟩
          case measure => simp [intOf]; omega
        · obtain rfl : M = i := by omega
          have hrT : Own wr .u64 30 gr M (Dg.dg DB T) := hr.congr fun j hj => by rw [if_pos hj]
          clear hr
          go_wp2_with fail
          obtain ⟨wo2, rfl⟩ : ∃ wo2 : World, wo2 = wr := ⟨_, rfl⟩
          by_cases hTb : T < b
          · go_loopw [12, 13] (fun bv iv wr => ∃ y : Int, -1 ≤ y ∧ y < (M : Int) ∧ iv = .int .i64 y ∧ bv = .bool false ∧ Own wr .u64 30 gr M (Dg.dg DB T) ∧ Own wr .u64 30 gq n (Dg.dg DB Q) ∧ Below w.heap.size w wr ∧ Hid (∀ j : Nat, y < j → j < M → Dg.dg DB T j = Dg.dg DB b j)) (fun _ iv _ => (intOf iv + 1).toNat)
            case atStart => exact ⟨(M : Int) - 1, by omega, by omega, by go_num, rfl, hrT, hq, hbel, fun j h1 h2 => absurd h1 (by omega)⟩
            case round =>
              obtain ⟨y, hy1, hy2, rfl, rfl, hrT, hq, hbel, he⟩ := hrel
              by_cases hy0 : y < 0
              · exact absurd hTb (by
                  have : T = b := Dg.ext M HTL.out HBM.out fun j hj => he.out j (by omega) hj
                  omega)
              · obtain ⟨i, rfl⟩ := Int.eq_ofNat_of_zero_le (by omega : 0 ≤ y)
                have hcl : wr.cell? ⟨gr, i, none⟩ = some (.int .u64 (Dg.dg DB T i : Nat)) := hrT.cell i (by omega)
                obtain ⟨d1, hd1⟩ : ∃ d, d = Dg.dg DB T i := ⟨_, rfl⟩
                obtain ⟨d2, hd2⟩ : ∃ d, d = Dg.dg DB b i := ⟨_, rfl⟩
                rw [← hd1] at hcl
                have hle : d1 ≠ d2 → d1 < d2 := fun hne => by
                  rcases Nat.lt_or_gt_of_ne hne with h | h
                  · exact h
                  · exfalso
                    have := Dg.lt_of_dg (n := M) (i := i) DBpos HBM.out HTL.out (by omega) (fun j h1 h2 => (he.out j (by omega) h2).symm) (by rw [← hd1, ← hd2]; exact h)
                    omega
                have hi1 : (i : Int) < (M : Int) := by omega
                have hb' : RN wr bo m d b := hb.below hbel (Nat.le_refl _)
                have DIG : ∀ q, Calls Tryz.prog 52 #[.slice bo m d, .int .i64 i] (wr.drewN q) fun e w' => e = .returned (.int .u64 (d2 : Nat)) ∧ wr.drewN q = w' := fun q => by
                  rw [hd2]; exact digit_any _ _ _ _ _ _ (hb'.drewN _) (by omega)
                have DIG2 : ∀ p q, Calls Tryz.prog 52 #[.slice bo m d, .int .i64 i] (wr.drewN (p + q)) fun e w' => e = .returned (.int .u64 (d2 : Nat)) ∧ ∃ n, w' = wr.drewN (p + n) := fun p q => (DIG (p + q)).mono fun _ _ ⟨he, hw⟩ => ⟨he, q, hw.symm⟩
                have HDG := Lib.hid DIG; have HDG2 := Lib.hid DIG2
                have HD1 := Lib.hid hd1; have HD2 := Lib.hid hd2; have HLE := Lib.hid hle; clear hd1 hd2 hle DIG DIG2
                by_cases heq : d1 = d2
                · have hbq : ((d1 : Int) != (d2 : Int)) = false := by rw [bne_eq_false_iff_eq]; omega
                  have HEQ := Lib.hid heq; clear heq
                  go_wp2_with fail
                  go_quiet ((go_at_call 52; exact quiet_same (HDG.out _)))
                  go_wp2_with fail
                  go_roundw
                  case rel => exact ⟨_, by omega, by omega, rfl, rfl, hrT.drewN _, hq.drewN _, below_drawn hbel _, fun j h1 h2 => by
                    by_cases e : j = i
                    · rw [e, ← HD1.out, ← HD2.out]; exact HEQ.out
                    · exact he.out j (by omega) h2⟩
                  case measure => simp [intOf]
                · have hbq : ((d1 : Int) != (d2 : Int)) = true := by rw [bne_iff_ne]; omega
                  have hlt : d1 < d2 := HLE.out heq
                  clear heq
                  go_wp2_with fail
                  go_quiet ((go_at_call 52; exact quiet_same (HDG.out _)))
                  go_wp2_with fail
                  go_quiet ((go_at_call 52; exact HDG2.out _ _))
                  go_wp2_with fail
                  have D := HD.out.2.1 hTb
                  go_roundw
                  case rel => exact ⟨t, by omega, by go_num, (by rw [D.1]; exact hq.drewN _), (by rw [D.2]; exact hrT.drewN _), below_drawn hbel _⟩
                  case measure => simp [intOf]
          · go_loopw [12, 13] (fun bv iv wr => ∃ y : Int, -1 ≤ y ∧ y < (M : Int) ∧ iv = .int .i64 y ∧ bv = .bool false ∧ Own wr .u64 30 gr M (Dg.dg DB T) ∧ Own wr .u64 30 gq n (Dg.dg DB Q) ∧ Below w.heap.size w wr ∧ Hid (∀ j : Nat, y < j → j < M → Dg.dg DB T j = Dg.dg DB b j)) (fun _ iv _ => (intOf iv + 1).toNat)
            case atStart => exact ⟨(M : Int) - 1, by omega, by omega, by go_num, rfl, hrT, hq, hbel, fun j h1 h2 => absurd h1 (by omega)⟩
            case round =>
              obtain ⟨y, hy1, hy2, rfl, rfl, hrT, hq, hbel, he⟩ := hrel
              by_cases hy0 : y < 0
              · go_wp2_with fail
                go_loopw [14, 15] (fun cv iv wr => ∃ i br : Nat, i ≤ M ∧ iv = .int .i64 i ∧ cv = .int .u64 br ∧ br ≤ 1 ∧ Hid (br = Dg.bw DB T b i) ∧ Own wr .u64 30 gr M (fun j => if j < i then Dg.dg DB (T - b) j else Dg.dg DB T j) ∧ Own wr .u64 30 gq n (Dg.dg DB Q) ∧ Below w.heap.size w wr) (fun _ iv _ => M - (intOf iv).toNat)
                case atStart => exact ⟨0, 0, Nat.zero_le _, rfl, rfl, Nat.zero_le _, (Dg.bw_zero _ _ _).symm, Own.congr (by first | exact hrT | exact hrT.drewN _ | exact (hrT.drewN _).drewN _) (fun j _ => by simp), by first | exact hq | exact hq.drewN _ | exact (hq.drewN _).drewN _, by first | exact hbel | exact below_drawn hbel _ | exact below_drawn (below_drawn hbel _) _⟩
                case round =>
                  obtain ⟨i, br, hi, rfl, rfl, hbr1, hbr, hrT, hq, hbel⟩ := hrel
                  by_cases hiM : i < M
                  · have hcl : wr.cell? ⟨gr, i, none⟩ = some (.int .u64 (Dg.dg DB T i : Nat)) := by have h := hrT.cell i hiM; simpa using h
                    obtain ⟨d1, hd1⟩ : ∃ d, d = Dg.dg DB T i := ⟨_, rfl⟩
                    obtain ⟨d2, hd2⟩ : ∃ d, d = Dg.dg DB b i := ⟨_, rfl⟩
                    rw [← hd1] at hcl
                    have hl1 : d1 < 65536 := by rw [hd1]; exact Dg.dg_lt DBpos _ _
                    have hl2 : d2 < 65536 := by rw [hd2]; exact Dg.dg_lt DBpos _ _
                    have S1 := Dg.dg_sub DB T b i DBpos (by omega)
                    have S2 := Dg.sub_step DB T b i DBpos
                    rw [← hd1, ← hd2, ← hbr.out] at S1 S2
                    have hb' : RN wr bo m d b := hb.below hbel (Nat.le_refl _)
                    have DIG : ∀ q, Calls Tryz.prog 52 #[.slice bo m d, .int .i64 i] (wr.drewN q) fun e w' => e = .returned (.int .u64 (d2 : Nat)) ∧ wr.drewN q = w' := fun q => by
                      rw [hd2]; exact digit_any _ _ _ _ _ _ (hb'.drewN _) (by omega)
                    have HDG := Lib.hid DIG; have HS1 := Lib.hid S1; have HS2 := Lib.hid S2
                    have hfr := hrT.frozen i
                    clear hd1 hd2 DIG S1 S2
                    go_wp2_with fail
                    go_quiet ((go_at_call 52; exact quiet_same (HDG.out _)))
                    go_wp2_with fail
                    go_roundw
                    case rel =>
                      refine ⟨i + 1, if d1 < d2 + br then 1 else 0, by omega, by go_num, ?_, by split <;> omega, HS2.out.symm, own_set_int (hrT.drewN _) (s := (d1 + 65536 - d2 - br) % 65536) (by omega) (by rw [if_pos (by omega), HS1.out]; rfl) (fun j hj hne => by
                        by_cases h1 : j < i
                        · rw [if_pos h1, if_pos (by omega)]
                        · rw [if_neg h1, if_neg (by omega)]), (hq.drewN _).other _ hgqr, (below_drawn hbel _).setCell hgr1 _⟩
                      congr 1
                      split <;> omega
                    case measure => simp [intOf]; omega
                  · obtain rfl : M = i := by omega
                    have hrT2 : Own wr .u64 30 gr M (Dg.dg DB (T - b)) := hrT.congr fun j hj => by rw [if_pos hj]
                    have hcq : wr.cell? ⟨gq, t / 16, none⟩ = some (.int .u64 (Dg.dg DB Q (t / 16) : Nat)) := hq.cell _ (by omega)
                    obtain ⟨z, hz⟩ : ∃ z, z = Dg.dg DB Q (t / 16) := ⟨_, rfl⟩
                    rw [← hz] at hcq
                    have hzl := HQB.out.1
                    rw [← hz] at hzl
                    have HZL := Lib.hid hzl; have HZ := Lib.hid hz; clear hzl hz
                    have hfq := hq.frozen (t / 16)
                    have hti : t / 16 < n := by omega
                    go_wp2_with fail
                    go_region
                    go_wp2_with fail
                    have D := HD.out.2.2 (by omega)
                    have AA : ∀ j, Dg.dg DB (Q + 2 ^ t) j = if j = t / 16 then z + 2 ^ (t % 16) else Dg.dg DB Q j := fun j => by
                      have h := dg_add_at (B := DB) (V := Q) (k := t / 16) (x := 2 ^ (t % 16)) DBpos HQB.out.1 j
                      rw [HQB.out.2, ← HZ.out] at h
                      exact h
                    go_roundw
                    case rel =>
                      refine ⟨t, by omega, by go_num, ?_, ?_, (hbel.setCell (by omega) _).drew⟩
                      · rw [D.1]
                        exact (own_set_int hq (s := z + 2 ^ (t % 16)) (shl_val z _ HZL.out) (by rw [AA, if_pos rfl]) (fun j _ hj => by rw [AA, if_neg hj])).drew
                      · rw [D.2]
                        exact (hrT2.other _ hgqr.symm).drew
                    case measure => simp [intOf]
              · obtain ⟨i, rfl⟩ := Int.eq_ofNat_of_zero_le (by omega : 0 ≤ y)
                have hcl : wr.cell? ⟨gr, i, none⟩ = some (.int .u64 (Dg.dg DB T i : Nat)) := hrT.cell i (by omega)
                obtain ⟨d1, hd1⟩ : ∃ d, d = Dg.dg DB T i := ⟨_, rfl⟩
                obtain ⟨d2, hd2⟩ : ∃ d, d = Dg.dg DB b i := ⟨_, rfl⟩
                rw [← hd1] at hcl
                have hle : d1 ≠ d2 → ¬ d1 < d2 := fun hne h => by
                  have := Dg.lt_of_dg (n := M) (i := i) DBpos HTL.out HBM.out (by omega) (fun j h1 h2 => he.out j (by omega) h2) (by rw [← hd1, ← hd2]; exact h)
                  omega
                have hi1 : (i : Int) < (M : Int) := by omega
                have hb' : RN wr bo m d b := hb.below hbel (Nat.le_refl _)
                have DIG : ∀ q, Calls Tryz.prog 52 #[.slice bo m d, .int .i64 i] (wr.drewN q) fun e w' => e = .returned (.int .u64 (d2 : Nat)) ∧ wr.drewN q = w' := fun q => by
                  rw [hd2]; exact digit_any _ _ _ _ _ _ (hb'.drewN _) (by omega)
                have DIG2 : ∀ p q, Calls Tryz.prog 52 #[.slice bo m d, .int .i64 i] (wr.drewN (p + q)) fun e w' => e = .returned (.int .u64 (d2 : Nat)) ∧ ∃ n, w' = wr.drewN (p + n) := fun p q => (DIG (p + q)).mono fun _ _ ⟨he, hw⟩ => ⟨he, q, hw.symm⟩
                have HDG := Lib.hid DIG; have HDG2 := Lib.hid DIG2
                have HD1 := Lib.hid hd1; have HD2 := Lib.hid hd2; have HLE := Lib.hid hle; clear hd1 hd2 hle DIG DIG2
                by_cases heq : d1 = d2
                · have hbq : ((d1 : Int) != (d2 : Int)) = false := by rw [bne_eq_false_iff_eq]; omega
                  have HEQ := Lib.hid heq; clear heq
                  go_wp2_with fail
                  go_quiet ((go_at_call 52; exact quiet_same (HDG.out _)))
                  go_wp2_with fail
                  go_roundw
                  case rel => exact ⟨_, by omega, by omega, rfl, rfl, hrT.drewN _, hq.drewN _, below_drawn hbel _, fun j h1 h2 => by
                    by_cases e : j = i
                    · rw [e, ← HD1.out, ← HD2.out]; exact HEQ.out
                    · exact he.out j (by omega) h2⟩
                  case measure => simp [intOf]
                · have hbq : ((d1 : Int) != (d2 : Int)) = true := by rw [bne_iff_ne]; omega
                  have hlt : ¬ d1 < d2 := HLE.out heq
                  clear heq
                  go_wp2_with fail
                  go_quiet ((go_at_call 52; exact quiet_same (HDG.out _)))
                  go_wp2_with fail
                  go_quiet ((go_at_call 52; exact HDG2.out _ _))
                  go_wp2_with fail
                  go_loopw [14, 15] (fun cv iv wr => ∃ i br : Nat, i ≤ M ∧ iv = .int .i64 i ∧ cv = .int .u64 br ∧ br ≤ 1 ∧ Hid (br = Dg.bw DB T b i) ∧ Own wr .u64 30 gr M (fun j => if j < i then Dg.dg DB (T - b) j else Dg.dg DB T j) ∧ Own wr .u64 30 gq n (Dg.dg DB Q) ∧ Below w.heap.size w wr) (fun _ iv _ => M - (intOf iv).toNat)
                  case atStart => exact ⟨0, 0, Nat.zero_le _, rfl, rfl, Nat.zero_le _, (Dg.bw_zero _ _ _).symm, Own.congr (by first | exact hrT | exact hrT.drewN _ | exact (hrT.drewN _).drewN _) (fun j _ => by simp), by first | exact hq | exact hq.drewN _ | exact (hq.drewN _).drewN _, by first | exact hbel | exact below_drawn hbel _ | exact below_drawn (below_drawn hbel _) _⟩
                  case round =>
                    obtain ⟨i, br, hi, rfl, rfl, hbr1, hbr, hrT, hq, hbel⟩ := hrel
                    by_cases hiM : i < M
                    · have hcl : wr.cell? ⟨gr, i, none⟩ = some (.int .u64 (Dg.dg DB T i : Nat)) := by have h := hrT.cell i hiM; simpa using h
                      obtain ⟨d1, hd1⟩ : ∃ d, d = Dg.dg DB T i := ⟨_, rfl⟩
                      obtain ⟨d2, hd2⟩ : ∃ d, d = Dg.dg DB b i := ⟨_, rfl⟩
                      rw [← hd1] at hcl
                      have hl1 : d1 < 65536 := by rw [hd1]; exact Dg.dg_lt DBpos _ _
                      have hl2 : d2 < 65536 := by rw [hd2]; exact Dg.dg_lt DBpos _ _
                      have S1 := Dg.dg_sub DB T b i DBpos (by omega)
                      have S2 := Dg.sub_step DB T b i DBpos
                      rw [← hd1, ← hd2, ← hbr.out] at S1 S2
                      have hb' : RN wr bo m d b := hb.below hbel (Nat.le_refl _)
                      have DIG : ∀ q, Calls Tryz.prog 52 #[.slice bo m d, .int .i64 i] (wr.drewN q) fun e w' => e = .returned (.int .u64 (d2 : Nat)) ∧ wr.drewN q = w' := fun q => by
                        rw [hd2]; exact digit_any _ _ _ _ _ _ (hb'.drewN _) (by omega)
                      have HDG := Lib.hid DIG; have HS1 := Lib.hid S1; have HS2 := Lib.hid S2
                      have hfr := hrT.frozen i
                      clear hd1 hd2 DIG S1 S2
                      go_wp2_with fail
                      go_quiet ((go_at_call 52; exact quiet_same (HDG.out _)))
                      go_wp2_with fail
                      go_roundw
                      case rel =>
                        refine ⟨i + 1, if d1 < d2 + br then 1 else 0, by omega, by go_num, ?_, by split <;> omega, HS2.out.symm, own_set_int (hrT.drewN _) (s := (d1 + 65536 - d2 - br) % 65536) (by omega) (by rw [if_pos (by omega), HS1.out]; rfl) (fun j hj hne => by
                          by_cases h1 : j < i
                          · rw [if_pos h1, if_pos (by omega)]
                          · rw [if_neg h1, if_neg (by omega)]), (hq.drewN _).other _ hgqr, (below_drawn hbel _).setCell hgr1 _⟩
                        congr 1
                        split <;> omega
                      case measure => simp [intOf]; omega
                    · obtain rfl : M = i := by omega
                      have hrT2 : Own wr .u64 30 gr M (Dg.dg DB (T - b)) := hrT.congr fun j hj => by rw [if_pos hj]
                      have hcq : wr.cell? ⟨gq, t / 16, none⟩ = some (.int .u64 (Dg.dg DB Q (t / 16) : Nat)) := hq.cell _ (by omega)
                      obtain ⟨z, hz⟩ : ∃ z, z = Dg.dg DB Q (t / 16) := ⟨_, rfl⟩
                      rw [← hz] at hcq
                      have hzl := HQB.out.1
                      rw [← hz] at hzl
                      have HZL := Lib.hid hzl; have HZ := Lib.hid hz; clear hzl hz
                      have hfq := hq.frozen (t / 16)
                      have hti : t / 16 < n := by omega
                      go_wp2_with fail
                      go_region
                      go_wp2_with fail
                      have D := HD.out.2.2 (by omega)
                      have AA : ∀ j, Dg.dg DB (Q + 2 ^ t) j = if j = t / 16 then z + 2 ^ (t % 16) else Dg.dg DB Q j := fun j => by
                        have h := dg_add_at (B := DB) (V := Q) (k := t / 16) (x := 2 ^ (t % 16)) DBpos HQB.out.1 j
                        rw [HQB.out.2, ← HZ.out] at h
                        exact h
                      go_roundw
                      case rel =>
                        refine ⟨t, by omega, by go_num, ?_, ?_, (hbel.setCell (by omega) _).drew⟩
                        · rw [D.1]
                          exact (own_set_int hq (s := z + 2 ^ (t % 16)) (shl_val z _ HZL.out) (by rw [AA, if_pos rfl]) (fun j _ hj => by rw [AA, if_neg hj])).drew
                        · rw [D.2]
                          exact (hrT2.other _ hgqr.symm).drew
                      case measure => simp [intOf]
    · obtain rfl : k = 0 := by omega
      have hqr := hq.rd
      have hrr := hr.rd
      rw [Nat.pow_zero, Nat.div_one, Nat.mul_one] at hqr
      rw [Nat.pow_zero, Nat.div_one] at hrr
      have hql : a / b < DB ^ n := Nat.lt_of_le_of_lt (Nat.div_le_self _ _) HAL.out
      have hrl : a % b < DB ^ M := Nat.lt_trans (Nat.mod_lt _ HB0.out) HBM.out
      have HQL := Lib.hid hql; have HRL := Lib.hid hrl; clear hql hrl
      go_wp2_with fail
      refine (rtrim_num _ _ _ _ _ hqr HQL.out).mono ?_
      rintro e w' ⟨k1, rfl, hn1, rfl⟩
      go_wp2_with fail
      refine (rtrim_num _ _ _ _ _ hrr HRL.out).mono ?_
      rintro e w' ⟨k2, rfl, hn2, rfl⟩
      go_wp2_with fail
      go_ret2
      exact ⟨_, _, _, _, _, _, rfl, hn1, hn2, hbel⟩
end Go.Proofs.YtbmhiejggkdnkaaGreatDoor
