/- limbs.div: the walk. -/
import Derived.Test.YtbmhiejggkdnkaaGreatDoorShl
import Derived.Test.YtbmhiejggkdnkaaGreatDoorShelf
import Derived.Test.YtbmhiejggkdnkaaGreatDoorDivPlain
import Derived.Deep.RegionWith
import Derived.Deep.RegionHeld3
namespace Go.Proofs.YtbmhiejggkdnkaaGreatDoor
open Go.RowKit

/-- The quotient, what is left, and no error. -/
def RetDiv (w : World) (q r : Nat) (e : Ending) (w' : World) : Prop :=
  ∃ qo qn qc ro rn rc, e = .returned (.tuple #[.slice qo qn qc, .slice ro rn rc, .nilIface]) ∧ Num w' qo qn qc q ∧ Num w' ro rn rc r ∧ Below w.heap.size w w'

theorem Num.zero (w : World) : Num w none 0 0 0 := ⟨(Dg.len_zero LB).symm, Rd.nil w .u32 _⟩

theorem div_zero (ao bo : Option Addr) (n c d : Nat) (w : World) :
    Calls Tryz.prog 39 #[.slice ao n c, .slice bo 0 d] w fun e w' => e = .returned (.tuple #[.slice none 0 0, .slice none 0 0, errZero]) ∧ w = w' := by
  go_enter Tryz.func39, Tryz.ntmps39
  go_wp2_with fail
  go_ret3
  exact ⟨rfl, rfl⟩

set_option maxRecDepth 100000 in
theorem div_lt (ao bo : Option Addr) (n c m d a b : Nat) (w : World) (ha : Num w ao n c a) (hb : Num w bo m d b) (hab : a < b) :
    Calls Tryz.prog 39 #[.slice ao n c, .slice bo m d] w (RetDiv w 0 a) := by
  have hcm : cmpN a b = -1 := cmpN_lt hab
  have HCM := Lib.hid hcm; clear hcm
  have hm0 : 0 < m := by rw [hb.len]; exact (Dg.len_pos_iff LB2 b).2 (by omega)
  go_enter Tryz.func39, Tryz.ntmps39
  go_wp2_with (go_at_call 48; refine (cmp_any _ _ _ _ _ _ a b _ ha hb).mono ?_; rintro e w' ⟨rfl, q, rfl⟩; rw [HCM.out])
  go_ret3
  exact ⟨_, _, _, _, _, _, rfl, Num.zero _, ha.drewN q, below_drawn (Below.refl _ _) q⟩

theorem bitLenAux_len : ∀ (f x : Nat), x < 2 ^ f → Lib.bitLenAux f x = Dg.len 2 x
  | 0, x, h => by
    have : x = 0 := by simpa using h
    subst this; rw [Dg.len_zero]; rfl
  | f + 1, x, h => by
    by_cases h0 : x = 0
    · subst h0; simp [Lib.bitLenAux, Dg.len_zero]
    · rw [Dg.len_pos (by omega) (by omega), Lib.bitLenAux, if_neg h0, bitLenAux_len f (x / 2) (by rw [Nat.pow_succ] at h; omega), Nat.add_comm]
theorem bitLen_len (x : Nat) (h : x < 18446744073709551616) : Lib.bitLen x = Dg.len 2 x := bitLenAux_len 64 x h

theorem bitLen_top (x : Nat) (h0 : 0 < x) (h1 : x < 4294967296) : ∃ s : Nat, s < 32 ∧ (32 - (Lib.bitLen x : Int)) = s ∧ x * 2 ^ s < 4294967296 := by
  rw [bitLen_len x (by omega)]
  have hl : Dg.len 2 x ≤ 32 := (Dg.len_le_iff (by omega) x 32).2 h1
  have hp : 0 < Dg.len 2 x := (Dg.len_pos_iff (by omega) x).2 h0
  refine ⟨32 - Dg.len 2 x, by omega, by omega, ?_⟩
  have h2 := Dg.lt_pow_len (B := 2) (by omega) x
  have h3 : 2 ^ Dg.len 2 x * 2 ^ (32 - Dg.len 2 x) = 4294967296 := by rw [← Nat.pow_add, show Dg.len 2 x + (32 - Dg.len 2 x) = 32 from by omega]
  rw [← h3]
  exact Nat.mul_lt_mul_of_pos_right h2 (Nat.pow_pos (by omega))

/-- The facts on the shifted numbers. -/
theorem div_facts {a b A V na n s x : Nat} (hs : s < 32) (hx : x = Dg.dg LB b (n - 1)) (hx0 : 0 < x) (hxs : x * 2 ^ s < 4294967296) (hn0 : 0 < n) (hal : a < LB ^ na) (hbl : b < LB ^ n) (hnn : n ≤ na) (hA : A = a * 2 ^ s) (hV : V = b * 2 ^ s) :
    0 < V ∧ V < LB ^ n ∧ A < V * LB ^ (na - n + 1) ∧ V / LB ^ (n - 1) = Dg.dg LB V (n - 1) ∧ 0 < Dg.dg LB V (n - 1) ∧ A / V = a / b ∧ A % V = a % b * 2 ^ s ∧ V * LB ≤ LB ^ (n + 1) := by
  have h2p : 0 < 2 ^ s := Nat.pow_pos (by omega)
  obtain ⟨m, rfl⟩ : ∃ m, n = m + 1 := ⟨n - 1, by omega⟩
  rw [Nat.add_sub_cancel] at hx ⊢
  have hp : 0 < LB ^ m := Nat.pow_pos LBpos
  have hbm : LB ^ m * x ≤ b := by
    have h := Nat.div_mul_le_self b (LB ^ m)
    have h1 : b / LB ^ m = x := by
      rw [hx]; unfold Dg.dg
      rw [Nat.mod_eq_of_lt]
      rw [Nat.div_lt_iff_lt_mul hp, Nat.mul_comm, ← Nat.pow_succ]; exact hbl
    rw [h1, Nat.mul_comm] at h; exact h
  have hb1 : b < LB ^ m * (x + 1) := by
    have h1 : b / LB ^ m = x := by
      rw [hx]; unfold Dg.dg
      rw [Nat.mod_eq_of_lt]
      rw [Nat.div_lt_iff_lt_mul hp, Nat.mul_comm, ← Nat.pow_succ]; exact hbl
    have := Nat.lt_mul_div_succ b hp
    rw [h1] at this; exact this
  obtain ⟨r, hr⟩ : ∃ r, LB = 2 ^ s * r := ⟨2 ^ (32 - s), by rw [← Nat.pow_add, show s + (32 - s) = 32 from by omega]; rfl⟩
  have hxr : (x + 1) * 2 ^ s ≤ LB := by
    have h1 : x * 2 ^ s < 2 ^ s * r := by rw [← hr]; exact hxs
    rw [Nat.mul_comm] at h1
    have h2 : x < r := Nat.lt_of_mul_lt_mul_left h1
    rw [hr, Nat.mul_comm]; exact Nat.mul_le_mul_left _ h2
  have hb0 : 0 < b := Nat.lt_of_lt_of_le (Nat.mul_pos hp hx0) hbm
  have hVp : 0 < V := by rw [hV]; exact Nat.mul_pos hb0 h2p
  have hVl : V < LB ^ (m + 1) := by
    rw [hV]
    refine Nat.lt_of_lt_of_le (Nat.mul_lt_mul_of_pos_right hb1 h2p) ?_
    rw [Nat.mul_assoc, Nat.pow_succ]; exact Nat.mul_le_mul_left _ hxr
  have hdg : V / LB ^ m = Dg.dg LB V m := by
    unfold Dg.dg
    rw [Nat.mod_eq_of_lt]
    rw [Nat.div_lt_iff_lt_mul hp, Nat.mul_comm, ← Nat.pow_succ]; exact hVl
  refine ⟨hVp, hVl, ?_, hdg, ?_, ?_, ?_, ?_⟩
  · rw [hA, hV, Nat.mul_right_comm]
    refine Nat.mul_lt_mul_of_pos_right ?_ h2p
    refine Nat.lt_of_lt_of_le hal ?_
    have h1 : LB ^ m * LB ^ (na - (m + 1) + 1) = LB ^ na := by rw [← Nat.pow_add]; congr 1; omega
    rw [← h1]
    exact Nat.mul_le_mul_right _ (Nat.le_trans (Nat.le_mul_of_pos_right _ hx0) hbm)
  · rw [← hdg]
    refine Nat.div_pos ?_ hp
    rw [hV]
    exact Nat.le_trans (Nat.le_trans (Nat.le_mul_of_pos_right _ hx0) hbm) (Nat.le_mul_of_pos_right _ h2p)
  · rw [hA, hV, Nat.mul_div_mul_right _ _ h2p]
  · rw [hA, hV, Nat.mul_mod_mul_right]
  · rw [Nat.pow_succ LB (m + 1)]; exact Nat.mul_le_mul_right _ (Nat.le_of_lt hVl)

/-- A guess that is too great, made less by 1. -/
theorem guess_less {W V t L : Nat} (hV : 0 < V) (hlt : W < t * V) (htV : t * V < LB ^ L) :
    1 ≤ t ∧ W + LB ^ L - t * V < LB ^ L ∧ W + LB ^ L - t * V + V = W + LB ^ L - (t - 1) * V ∧ (!decide (LB ^ L ≤ W + LB ^ L - t * V + V)) = decide (W < (t - 1) * V) := by
  have ht : 1 ≤ t := by
    rcases Nat.eq_zero_or_pos t with h | h
    · subst h; simp at hlt
    · exact h
  obtain ⟨u, rfl⟩ : ∃ u, t = u + 1 := ⟨t - 1, by omega⟩
  rw [Nat.add_sub_cancel]
  rw [Nat.succ_mul] at hlt htV ⊢
  generalize u * V = y at *
  refine ⟨ht, by omega, by omega, ?_⟩
  by_cases h : W < y
  · have : ¬ LB ^ L ≤ W + LB ^ L - (y + V) + V := by omega
    simp only [h, this, decide_true, decide_false, Bool.not_false]
  · have : LB ^ L ≤ W + LB ^ L - (y + V) + V := by omega
    simp only [h, this, decide_true, decide_false, Bool.not_true]

/-- A digit shifted back as the program reckons it. -/
theorem back_eq (d1 d0 R s i : Nat) (hs : s < 32) (h1 : d1 < 4294967296) (h0 : d0 < 4294967296) (e1 : d1 = Dg.dg LB (R * 2 ^ s) (i + 1)) (e0 : d0 = Dg.dg LB (R * 2 ^ s) i) :
    bits BinOp.or IntKind.u64 ((d1 : Int) * 4294967296) (d0 : Int) / 2 ^ s % 4294967296 = ((Dg.dg LB R i : Nat) : Int) := by
  have e : ((d1 : Int) * 4294967296) = ((d1 * 4294967296 : Nat) : Int) := by simp
  have e2 : (d1 * 4294967296) ||| d0 = d1 * 4294967296 + d0 := nat_join 32 _ _ (by omega) (by omega)
  have h := Dg.shift_back (B := LB) (R := R) (s := s) (i := i) LBpos (Nat.pow_pos (by omega)) ⟨2 ^ (32 - s), by rw [← Nat.pow_add, show s + (32 - s) = 32 from by omega]; rfl⟩
  rw [← e1, ← e0, LB_eq] at h
  rw [e, u64_or_nat _ _ (by omega) (by omega), e2, LB_eq, ← h]
  simp

/-- The guess as the program reckons it. -/
theorem guess_eq (d1 d0 vt : Nat) (h1 : d1 < 4294967296) (h0 : d0 < 4294967296) (_hv : 1 ≤ vt) :
    min (IntKind.u64.wrap ((bits BinOp.or IntKind.u64 ((d1 : Int) * 4294967296) (d0 : Int)).tdiv (vt : Int))) 4294967295 = ((min ((d1 * LB + d0) / vt) (LB - 1) : Nat) : Int) := by
  have e1 : ((d1 : Int) * 4294967296) = ((d1 * 4294967296 : Nat) : Int) := by simp
  have e2 : (d1 * 4294967296) ||| d0 = d1 * 4294967296 + d0 := nat_join 32 _ _ (by omega) (by omega)
  rw [e1, u64_or_nat _ _ (by omega) (by omega), e2, LB_eq, ← Int.ofNat_tdiv, IntKind.wrap_u64]
  have h3 : (d1 * 4294967296 + d0) / vt ≤ d1 * 4294967296 + d0 := Nat.div_le_self _ _
  generalize (d1 * 4294967296 + d0) / vt = t at *
  omega

set_option maxRecDepth 100000 in
set_option maxHeartbeats 3200000 in
theorem div_ge (ao bo : Option Addr) (na c n d a b : Nat) (w : World) (ha : Num w ao na c a) (hb : Num w bo n d b) (hb0 : 0 < b) (hab : b ≤ a) (hna : na ≤ 10000000) :
    Calls Tryz.prog 39 #[.slice ao na c, .slice bo n d] w (RetDiv w (a / b) (a % b)) := by
  have hcm : 0 ≤ cmpN a b := by unfold cmpN; rw [if_neg (by omega)]; split <;> omega
  obtain ⟨cm, hcmd⟩ : ∃ cm, cm = cmpN a b := ⟨_, rfl⟩
  rw [← hcmd] at hcm
  have HCM := Lib.hid hcmd; clear hcmd
  have hn0 : 0 < n := by rw [hb.len]; exact (Dg.len_pos_iff LB2 b).2 hb0
  have hnn : n ≤ na := by rw [ha.len, hb.len]; exact Dg.len_mono LB2 hab
  have hal : a < LB ^ na := ha.lt
  have hbl : b < LB ^ n := hb.lt
  have htop : 0 < Dg.dg LB b (n - 1) := by rw [hb.len]; exact Dg.dg_top LB2 hb0
  obtain ⟨x, hx⟩ : ∃ x, x = Dg.dg LB b (n - 1) := ⟨_, rfl⟩
  have hxl : x < 4294967296 := by rw [hx]; exact Dg.dg_lt LBpos _ _
  rw [← hx] at htop
  obtain ⟨s, hs, hsi, hxs⟩ := bitLen_top x htop hxl
  have hcb : w.cell? ⟨blk bo, off bo + (n - 1), none⟩ = some (.int .u32 (x : Nat)) := by rw [hx]; exact hb.rd.cell _ (by omega)
  have hsb := hb.rd.sh
  have HX := Lib.hid hx; have HAL := Lib.hid hal; have HBL := Lib.hid hbl; have HSI := Lib.hid hsi; have HXS := Lib.hid hxs; have HAB := Lib.hid hab
  clear hx hal hbl hsi hxs hab
  go_enter Tryz.func39, Tryz.ntmps39
  go_upto_region 7 with (first
    | (go_at_call 48; refine (cmp_any _ _ _ _ _ _ a b _ ha hb).mono ?_; rintro e w' ⟨rfl, q, rfl⟩; rw [← HCM.out]; have ha' := ha.drewN q; have hb' := hb.drewN q; have hbq := below_drawn (Below.refl w.heap.size w) q)
    | (go_at_call 57; refine (Tryz.bits_LeadingZeros32 (x : Int) _ (by omega) (by omega)).mono ?_; rintro e w' ⟨rfl, rfl⟩; rw [Int.toNat_natCast, HSI.out]))
  have hbn : 0 < 2 ^ s := Nat.pow_pos (by omega)
  go_cut [9, 10] (fun u v wx => ∃ g1 g2, u = .slice (some ⟨g1, 0, none⟩) (na + 1) (na + 1) ∧ v = .slice (some ⟨g2, 0, none⟩) n (n + 1) ∧ Own wx .u32 74 g1 (na + 1) (Dg.dg LB (a * 2 ^ s)) ∧ Own wx .u32 74 g2 (n + 1) (Dg.dg LB (b * 2 ^ s)) ∧ g1 ≠ g2 ∧ w.heap.size ≤ g1 ∧ w.heap.size ≤ g2 ∧ Below w.heap.size w wx)
  case first =>
    go_region_with (first
      | (go_at_call_of 58 (Value.slice ao na c); refine (shl_any ao na c a s _ ?_ HAL.out (by omega) hs).mono ?_; exact ha.rd.below (below_drawn (Below.refl w.heap.size w) _) (Nat.le_refl _); rintro e w1 ⟨g1, rfl, hg1, hown1, hb1⟩)
      | (go_at_call_of 58 (Value.slice bo n d); refine (shl_any bo n d b s _ ?_ HBL.out (by omega) hs).mono ?_; exact (hb.rd.below (below_drawn (Below.refl w.heap.size w) _) (Nat.le_refl _)).below hb1 (Nat.le_refl _); rintro e w2 ⟨g2, rfl, hg2, hown2, hb2⟩))
    go_wp2_with fail
    go_meet
    exact ⟨g1, g2, rfl, rfl, hown1.below hb2 (Nat.le_refl _), hown2, by have := hown1.lt; omega, hg1, Nat.le_trans hb1.size hg2, ((below_drawn (Below.refl w.heap.size w) _).trans hb1).trans (hb2.mono hb1.size)⟩
  case rest =>
    obtain ⟨g1, g2, rfl, rfl, hu, hv0, hgg, hg1, hg2, hbel⟩ := hcut
    have hv : Rd _ .u32 (some ⟨g2, 0, none⟩) n (n + 1) (Dg.dg LB (b * 2 ^ s)) := hv0.rd.take (Nat.le_succ n)
    obtain ⟨A, hA⟩ : ∃ A, A = a * 2 ^ s := ⟨_, rfl⟩
    obtain ⟨V, hV⟩ : ∃ V, V = b * 2 ^ s := ⟨_, rfl⟩
    rw [← hA] at hu
    rw [← hV] at hv
    have HA := Lib.hid hA; have HV := Lib.hid hV
    clear hA hV hv0
    go_wp2_with (refine wpList_make_row _ rfl (.tmp 45) (.tmp 45) _ rfl 74 .u32 4 Tryz.underlying52 info32 .i64 .i64 _ _ (na - n + 1) rfl rfl (by omega) (by omega) (by omega) (by omega) ?_; intro gq w3 hgq hq hb3)
    have F := div_facts hs HX.out htop HXS.out hn0 HAL.out HBL.out hnn HA.out HV.out
    have HF := Lib.hid F; clear F
    have hbel3 : Below w.heap.size w w3 := hbel.trans (hb3.mono hbel.size)
    have hu3 := hu.below hb3 (Nat.le_refl _)
    have hv3 := hv.below hb3 (Nat.le_refl _)
    have hgqw : w.heap.size ≤ gq := Nat.le_trans hbel.size hgq
    have hgq1 : gq ≠ g1 := by have := hu.lt; omega
    have hgq2 : gq ≠ g2 := by have := hv.lt (j := 0) hn0; simp only [blk_some] at this; omega
    have hu4 : Own w3 .u32 74 g1 (na + 1) (Dg.dg LB (A % (V * LB ^ (na - n + 1)))) := by rw [Nat.mod_eq_of_lt HF.out.2.2.1]; exact hu3
    have hq4 : Own w3 .u32 74 gq (na - n + 1) (fun t => if na - n + 1 ≤ t then Dg.dg LB (a / b) t else 0) := hq.congr fun j hj => by rw [if_neg (by omega)]
    clear hu hu3 hq hv hb3 hbel hgq
    obtain ⟨wv, hwv⟩ : ∃ wv, wv = w3 := ⟨_, rfl⟩
    have hvw : Rd wv .u32 (some ⟨g2, 0, none⟩) n (n + 1) (Dg.dg LB V) := by rw [hwv]; exact hv3
    go_loopw [12] (fun jv wr => ∃ (x : Int) (k : Nat), (k : Int) = x + 1 ∧ -1 ≤ x ∧ k ≤ na - n + 1 ∧ jv = .int .i64 x ∧ Own wr .u32 74 g1 (na + 1) (Dg.dg LB (A % (V * LB ^ k))) ∧ Own wr .u32 74 gq (na - n + 1) (fun t => if k ≤ t then Dg.dg LB (a / b) t else 0) ∧ Rd wr .u32 (some ⟨g2, 0, none⟩) n (n + 1) (Dg.dg LB V) ∧ Below w.heap.size w wr) (fun jv _ => (intOf jv + 1).toNat)
    case atStart => exact ⟨_, na - n + 1, by omega, by omega, Nat.le_refl _, rfl, hu4, hq4, hv3, hbel3⟩
    case round =>
      obtain ⟨x, k, hkx, hx1, hk, rfl, hu, hq, hv, hbel⟩ := hrel
      clear hu4 hq4 hv3 hbel3 hvw hwv wv
      by_cases hx0 : x < 0
      · obtain rfl : k = 0 := by omega
        obtain ⟨R, hR⟩ : ∃ R, R = a % b := ⟨_, rfl⟩
        have hR2 : A % (V * LB ^ 0) = R * 2 ^ s := by rw [hR, Nat.pow_zero, Nat.mul_one]; exact HF.out.2.2.2.2.2.2.1
        have HR := Lib.hid hR; have HR2 := Lib.hid hR2; clear hR hR2
        have hu0 : Own wr .u32 74 g1 (na + 1) (fun t => if t < 0 then Dg.dg LB R t else Dg.dg LB (R * 2 ^ s) t) := hu.congr fun t _ => by rw [HR2.out, if_neg (by omega)]
        have hq0 : Own wr .u32 74 gq (na - n + 1) (Dg.dg LB (a / b)) := hq.congr fun t _ => by rw [if_pos (Nat.zero_le _)]
        clear hu hq hv hkx
        go_wp2_with fail
        obtain ⟨wo, rfl⟩ : ∃ wo : World, wo = wr := ⟨_, rfl⟩
        go_loopw [109] (fun iv wr => ∃ i : Nat, i ≤ n ∧ iv = .int .i64 i ∧ Own wr .u32 74 g1 (na + 1) (fun t => if t < i then Dg.dg LB R t else Dg.dg LB (R * 2 ^ s) t) ∧ Own wr .u32 74 gq (na - n + 1) (Dg.dg LB (a / b)) ∧ Below w.heap.size w wr) (fun iv _ => n - (intOf iv).toNat)
        case atStart => exact ⟨0, Nat.zero_le _, rfl, hu0, hq0, hbel⟩
        case round =>
          obtain ⟨i, hi, rfl, hu, hq, hbel⟩ := hrel
          clear hu0 hq0
          by_cases hin : i < n
          · have hc0 : wr.cell? ⟨g1, i, none⟩ = some (.int .u32 (Dg.dg LB (R * 2 ^ s) i : Nat)) := by simpa using hu.cell i (by omega)
            have hc1 : wr.cell? ⟨g1, i + 1, none⟩ = some (.int .u32 (Dg.dg LB (R * 2 ^ s) (i + 1) : Nat)) := by
              have h := hu.cell (i + 1) (by omega)
              rw [if_neg (by omega)] at h; exact h
            obtain ⟨d0, hd0⟩ : ∃ d, d = Dg.dg LB (R * 2 ^ s) i := ⟨_, rfl⟩
            obtain ⟨d1, hd1⟩ : ∃ d, d = Dg.dg LB (R * 2 ^ s) (i + 1) := ⟨_, rfl⟩
            rw [← hd0] at hc0; rw [← hd1] at hc1
            have hd0l : d0 < 4294967296 := by rw [hd0]; exact Dg.dg_lt LBpos _ _
            have hd1l : d1 < 4294967296 := by rw [hd1]; exact Dg.dg_lt LBpos _ _
            have HD0 := Lib.hid hd0; have HD1 := Lib.hid hd1; clear hd0 hd1
            have hf := hu.frozen i
            have hin' : (i : Int) < n := by omega
            go_wp2_with fail
            go_region
            go_wp2_with fail
            go_roundw
            case rel =>
              refine ⟨i + 1, by omega, by go_num, ?_, (hq.other _ hgq1).drew, (hbel.setCell hg1 _).drew⟩
              exact (own_set_int (h := fun t => if t < i + 1 then Dg.dg LB R t else Dg.dg LB (R * 2 ^ s) t) hu (back_eq d1 d0 R s i hs hd1l hd0l HD1.out HD0.out) (by rw [if_pos (Nat.lt_succ_self i)]) (fun t _ hne => by
                by_cases h1 : t < i
                · rw [if_pos h1, if_pos (by omega)]
                · rw [if_neg h1, if_neg (by omega)])).drew
            case measure => simp [intOf]; omega
          · obtain rfl : i = n := by omega
            have hru : Rd wr .u32 (some ⟨g1, 0, none⟩) i (na + 1) (Dg.dg LB R) := ⟨Sh.some _ _ _, by omega, by omega, fun t ht => by
              have h := hu.cell t (by omega)
              rw [if_pos ht] at h
              simpa [blk_some, off_some] using h⟩
            have hrq := hq.rd
            have hRl : R < LB ^ i := by rw [HR.out]; exact Nat.lt_trans (Nat.mod_lt _ hb0) HBL.out
            have hQl : a / b < LB ^ (na - i + 1) := by
              rw [← HF.out.2.2.2.2.2.1, Nat.div_lt_iff_lt_mul HF.out.1, Nat.mul_comm]; exact HF.out.2.2.1
            have tR := tl_dg R i hRl
            have tQ := tl_dg (a / b) (na - i + 1) hQl
            have HTR := Lib.hid tR; have HTQ := Lib.hid tQ
            clear hRl hQl tR tQ hin
            go_wp2_with fail
            go_quiet ((go_at_call 54; first | exact quiet_same (trim_any _ _ _ _ _ (hrq.drewN _)) | exact quiet_same (trim_any _ _ _ _ _ (hru.drewN _))))
            go_wp2_with fail
            go_ret3
            exact ⟨_, _, _, _, _, _, rfl, ⟨HTQ.out, (hrq.take (tl_le _ _)).drewN _⟩, ⟨by rw [HTR.out, HR.out], by rw [← HR.out]; exact (hru.take (tl_le _ _)).drewN _⟩, below_drawn hbel _⟩
      · obtain ⟨j, rfl⟩ := Int.eq_ofNat_of_zero_le (by omega : 0 ≤ x)
        obtain rfl : k = j + 1 := by omega
        clear hkx hx1 hx0
        have hjn : j + n ≤ na := by omega
        obtain ⟨U, hU⟩ : ∃ U, U = A % (V * LB ^ (j + 1)) := ⟨_, rfl⟩
        rw [← hU] at hu
        have HU := Lib.hid hU; clear hU
        have hc1 : wr.cell? ⟨g1, j + n, none⟩ = some (.int .u32 (Dg.dg LB U (j + n) : Nat)) := hu.cell _ (by omega)
        have hc0 : wr.cell? ⟨g1, j + n - 1, none⟩ = some (.int .u32 (Dg.dg LB U (j + n - 1) : Nat)) := hu.cell _ (by omega)
        have hcv : wr.cell? ⟨g2, n - 1, none⟩ = some (.int .u32 (Dg.dg LB V (n - 1) : Nat)) := by simpa [blk_some, off_some] using hv.cell (n - 1) (by omega)
        obtain ⟨d1, hd1⟩ : ∃ d, d = Dg.dg LB U (j + n) := ⟨_, rfl⟩
        obtain ⟨d0, hd0⟩ : ∃ d, d = Dg.dg LB U (j + n - 1) := ⟨_, rfl⟩
        obtain ⟨vt, hvt⟩ : ∃ d, d = Dg.dg LB V (n - 1) := ⟨_, rfl⟩
        rw [← hd1] at hc1; rw [← hd0] at hc0; rw [← hvt] at hcv
        have hd1l : d1 < 4294967296 := by rw [hd1]; exact Dg.dg_lt LBpos _ _
        have hd0l : d0 < 4294967296 := by rw [hd0]; exact Dg.dg_lt LBpos _ _
        have hvtl : vt < 4294967296 := by rw [hvt]; exact Dg.dg_lt LBpos _ _
        have hvt0 : 1 ≤ vt := by rw [hvt]; exact HF.out.2.2.2.2.1
        have HD1 := Lib.hid hd1; have HD0 := Lib.hid hd0; have HVT := Lib.hid hvt
        clear hd1 hd0 hvt
        obtain ⟨gs, hgs⟩ : ∃ gs, gs = min ((d1 * LB + d0) / vt) (LB - 1) := ⟨_, rfl⟩
        obtain ⟨W, hW⟩ : ∃ W, W = U / LB ^ j := ⟨_, rfl⟩
        have hUl : U < V * LB ^ (j + 1) := by rw [HU.out]; exact Nat.mod_lt _ (Nat.mul_pos HF.out.1 (Nat.pow_pos LBpos))
        have hWl : W < V * LB := by
          rw [hW, Nat.div_lt_iff_lt_mul (Nat.pow_pos LBpos), Nat.mul_assoc, Nat.mul_comm LB, ← Nat.pow_succ]; exact hUl
        have hWL : W < LB ^ (n + 1) := Nat.lt_of_lt_of_le hWl HF.out.2.2.2.2.2.2.2
        have hge := Dg.guess_ge (W := W) (n := n) (top := d1 * LB + d0) (g := gs) LBpos (HVT.out.trans HF.out.2.2.2.1.symm) hvt0 (by
          have h1 : W / LB ^ (n - 1) = W / LB ^ (n - 1) % LB + LB * (W / LB ^ n) := by
            have h2 : W / LB ^ n = W / LB ^ (n - 1) / LB := by rw [Nat.div_div_eq_div_mul, ← Nat.pow_succ]; congr 2; omega
            rw [h2, Nat.mod_add_div]
          have h3 : W / LB ^ n < LB := by rw [Nat.div_lt_iff_lt_mul (Nat.pow_pos LBpos), Nat.mul_comm, ← Nat.pow_succ]; exact hWL
          have h4 : d0 = W / LB ^ (n - 1) % LB := by rw [HD0.out, show j + n - 1 = j + (n - 1) from by omega, ← Dg.dg_div, ← hW]; rfl
          have h5 : d1 = W / LB ^ n := by rw [HD1.out, ← Dg.dg_div, ← hW]; exact Nat.mod_eq_of_lt h3
          rw [h1, ← h4, ← h5, Nat.mul_comm]; omega) hWl HF.out.1 hgs
        have hgi := guess_eq d1 d0 vt hd1l hd0l hvt0
        rw [← hgs] at hgi
        have hgsl : gs < 4294967296 := Nat.lt_of_le_of_lt hge.2 (Nat.sub_lt LBpos Nat.one_pos)
        have hgV : ∀ t, t ≤ gs → t * V < LB ^ (n + 1) := fun t ht => by
          have h1 : t * V ≤ (LB - 1) * V := Nat.mul_le_mul_right _ (Nat.le_trans ht hge.2)
          have h2 : (LB - 1) * V + V = LB * V := by rw [← Nat.succ_mul, Nat.succ_eq_add_one, Nat.sub_add_cancel LBpos]
          have h3 := HF.out.2.2.2.2.2.2.2
          have h4 := HF.out.1
          rw [Nat.mul_comm V] at h3
          omega
        have hWdg : ∀ i, i < n + 1 → Dg.dg LB U (j + i) = Dg.dg LB W i := fun i _ => by rw [hW, Dg.dg_div]
        have HGS := Lib.hid hgs; have HW := Lib.hid hW; have HUL := Lib.hid hUl; have HWLL := Lib.hid hWl; have HWL := Lib.hid hWL; have HGE := Lib.hid hge; have HGI := Lib.hid hgi; have HGV := Lib.hid hgV; have HWDG := Lib.hid hWdg
        clear hgs hW hUl hWl hWL hge hgi hgV hWdg
        have hvg : blk (some ⟨g2, 0, none⟩) ≠ g1 := by simp only [blk_some]; omega
        go_wp2_with fail
        go_quiet (fail)
        go_wp2_with (go_at_call 59; rw [show j + n + 1 - j = n + 1 from by omega, HGI.out]; refine (take_any g1 j (n + 1) _ (na + 1) _ (some ⟨g2, 0, none⟩) n (n + 1) gs V W _ (hu.drewN _) (by omega) (by omega) HWDG.out HWL.out (hv.drewN _) hvg HF.out.2.1 hgsl (HGV.out gs (Nat.le_refl _)) (by omega) (by omega)).mono ?_; rintro e w4 ⟨rfl, hu4, hgr4⟩)
        have hq4 := (hq.drewN nq).grown hgr4 hgq1
        have hv4 := (hv.drewN nq).grown hgr4 hvg
        have hbel4 : Below w.heap.size w w4 := grown_below (below_drawn hbel nq) hgr4 hbel.size hg1
        clear hgr4
        obtain ⟨wo, rfl⟩ : ∃ wo : World, wo = wr := ⟨_, rfl⟩
        go_loopw [14, 15] (fun gv uv wr => ∃ t : Nat, gv = .int .u64 t ∧ uv = .bool (decide (W < t * V)) ∧ t ≤ gs ∧ Hid (W / V ≤ t) ∧ Own wr .u32 74 g1 (na + 1) (fun i => if j ≤ i ∧ i < j + (n + 1) then Dg.dg LB (W + LB ^ (n + 1) - t * V) (i - j) else Dg.dg LB U i) ∧ Own wr .u32 74 gq (na - n + 1) (fun t => if j + 1 ≤ t then Dg.dg LB (a / b) t else 0) ∧ Rd wr .u32 (some ⟨g2, 0, none⟩) n (n + 1) (Dg.dg LB V) ∧ Below w.heap.size w wr) (fun gv _ _ => (intOf gv).toNat)
        case atStart => exact ⟨gs, rfl, rfl, Nat.le_refl _, HGE.out.1, hu4, hq4, hv4, hbel4⟩
        case round =>
          obtain ⟨t, rfl, rfl, htg, htq, hu, hq, hv, hbel⟩ := hrel
          clear hu4 hq4 hv4 hbel4
          obtain ⟨B, hB⟩ : ∃ B : Bool, B = decide (W < t * V) := ⟨_, rfl⟩
          rw [← hB]
          cases B with
          | true =>
            have hlt : W < t * V := of_decide_eq_true hB.symm
            have GL := guess_less HF.out.1 hlt (HGV.out t htg)
            have HGL := Lib.hid GL; clear GL
            have ht1 := HGL.out.1
            have HLT := Lib.hid hlt; clear hlt hB
            go_wp2_with (go_at_call 60; rw [show j + n + 1 - j = n + 1 from by omega]; refine (give_any g1 j (n + 1) _ (na + 1) _ (some ⟨g2, 0, none⟩) n (n + 1) V (W + LB ^ (n + 1) - t * V) _ hu (by omega) (by omega) (fun i hi => by rw [if_pos (by omega), Nat.add_sub_cancel_left]) HGL.out.2.1 hv hvg HF.out.2.1 (by omega) (by omega) (by omega)).mono ?_; rintro e w5 ⟨rfl, hu5, hgr5⟩; rw [HGL.out.2.2.1])
            have hq5 := hq.grown hgr5 hgq1
            have hv5 := hv.grown hgr5 hvg
            have hbel5 : Below w.heap.size w w5 := grown_below hbel hgr5 hbel.size hg1
            have hu6 : Own w5 .u32 74 g1 (na + 1) (fun i => if j ≤ i ∧ i < j + (n + 1) then Dg.dg LB (W + LB ^ (n + 1) - (t - 1) * V) (i - j) else Dg.dg LB U i) := hu5.congr fun i _ => by
              rw [HGL.out.2.2.1]
              by_cases h1 : j ≤ i ∧ i < j + (n + 1)
              · rw [if_pos h1, if_pos h1]
              · rw [if_neg h1, if_neg h1, if_neg h1]
            go_roundw
            case rel =>
              refine ⟨t - 1, ?_, ?_, by omega, ?_, hu6, hq5, hv5, hbel5⟩
              · rw [show ((t : Int) - 1) = ((t - 1 : Nat) : Int) from by omega]
              · have h := HGL.out.2.2.2
                rw [HGL.out.2.2.1] at h
                rw [h]
              · have h1 : W / V < t := by rw [Nat.div_lt_iff_lt_mul HF.out.1]; exact HLT.out
                show W / V ≤ t - 1
                omega
            case measure => simp [intOf]; omega
          | false =>
            have hlt : ¬ W < t * V := of_decide_eq_false hB.symm
            have htQ : t = W / V := Dg.quo_found HF.out.1 htq.out hlt
            have HTQ := Lib.hid htQ; have HLT := Lib.hid hlt; clear hB hlt htQ
            have hcq : wr.cell? ⟨gq, j, none⟩ = some (.int .u32 ((if j + 1 ≤ j then Dg.dg LB (a / b) j else 0 : Nat) : Int)) := hq.cell j (by omega)
            rw [if_neg (by omega)] at hcq
            have hfq := hq.frozen j
            have htl : t < 4294967296 := by omega
            have hdgq : t = Dg.dg LB (a / b) j := by
              rw [HTQ.out, HW.out, HU.out, ← HF.out.2.2.2.2.2.1]; exact Dg.quo_digit A V LB j
            have HDQ := Lib.hid hdgq; clear hdgq
            go_wp2_with fail
            go_roundw
            case rel =>
              refine ⟨_, j, ?_, ?_, by omega, rfl, ?_, ?_, ?_, ?_⟩
              · omega
              · omega
              · refine (hu.congr fun i _ => ?_).other _ hgq1.symm
                have h1 := Dg.rest_digit (A := A) (V := V) (j := j) LBpos HF.out.2.2.2.2.2.2.2 i
                rw [← HU.out, ← HW.out] at h1
                rw [← h1]
                by_cases h2 : j ≤ i ∧ i < j + (n + 1)
                · rw [if_pos h2, if_pos h2]
                  have h3 : W + LB ^ (n + 1) - t * V = W % V + LB ^ (n + 1) := by
                    have h4 := Nat.div_add_mod W V
                    rw [Nat.mul_comm, ← HTQ.out] at h4
                    omega
                  rw [h3, dg_add_pow (by omega)]
                · rw [if_neg h2, if_neg h2]
              · exact own_set_int hq (s := t) (by first | rfl | omega) (by rw [if_pos (Nat.le_refl _)]; exact HDQ.out) (fun i _ hne => by
                  by_cases h1 : j + 1 ≤ i
                  · rw [if_pos h1, if_pos (by omega)]
                  · rw [if_neg h1, if_neg (by omega)])
              · exact hv.other _ (by simp only [blk_some]; omega)
              · exact hbel.setCell hgqw _
            case measure => simp [intOf]
end Go.Proofs.YtbmhiejggkdnkaaGreatDoor
