/- Div Read Form0 Form, in one text. -/
import Derived.Test.YtjkjlbchbbpmaaaGreatDoorZN1
import Derived.Test.YtjkjlbchbbpmaaaGreatDoorShelf
import Derived.Test.YtjkjlbchbbpmaaaGreatDoorZP
import Derived.Deep.RegionWith
import Derived.Deep.RegionHeld3
import Derived.Lib.TrimByte
/- limbs.div: the walk. -/
namespace Go.Proofs.YtjkjlbchbbpmaaaGreatDoor
open Go.RowKit

/-- The quotient, what is left, and no error. -/
def RetDiv (w : World) (q r : Nat) (e : Ending) (w' : World) : Prop :=
  ∃ qo qn qc ro rn rc, e = .returned (.tuple #[.slice qo qn qc, .slice ro rn rc, .nilIface]) ∧ Num w' qo qn qc q ∧ Num w' ro rn rc r ∧ Below w.heap.size w w'

theorem Num.zero (w : World) : Num w none 0 0 0 := ⟨(Dg.len_zero LB).symm, Rd.nil w .u32 _⟩

theorem div_zero (ao bo : Option Addr) (n c d : Nat) (w : World) :
    Calls Tryz.prog 42 #[.slice ao n c, .slice bo 0 d] w fun e w' => e = .returned (.tuple #[.slice none 0 0, .slice none 0 0, errZero]) ∧ w = w' := by
  go_enter Tryz.func42, Tryz.ntmps42
  go_wp2_with fail
  go_ret3
  exact ⟨rfl, rfl⟩

set_option maxRecDepth 100000 in
theorem div_lt (ao bo : Option Addr) (n c m d a b : Nat) (w : World) (ha : Num w ao n c a) (hb : Num w bo m d b) (hab : a < b) :
    Calls Tryz.prog 42 #[.slice ao n c, .slice bo m d] w (RetDiv w 0 a) := by
  have hcm : cmpN a b = -1 := cmpN_lt hab
  have HCM := Lib.hid hcm; clear hcm
  have hm0 : 0 < m := by rw [hb.len]; exact (Dg.len_pos_iff LB2 b).2 (by omega)
  go_enter Tryz.func42, Tryz.ntmps42
  go_wp2_with (go_at_call 72; refine (cmp_any _ _ _ _ _ _ a b _ ha hb).mono ?_; rintro e w' ⟨rfl, q, rfl⟩; rw [HCM.out])
  go_ret3
  exact ⟨_, _, _, _, _, _, rfl, Num.zero _, ha.drewN q, below_drawn (Below.refl _ _) q⟩

theorem bitLenAux_len : ∀ (f x : Nat), x < 2 ^ f → Lib.bitLenAux f x = Dg.len 2 x
  | 0, x, h => by
    have : x = 0 := by simpa using h
    subst this; rw [Dg.len_zero]; rfl
  | f + 1, x, h => by
    by_cases h0 : x = 0
    · subst h0; simp [Lib.bitLenAux, Dg.len_zero]
    · rw [Dg.len_pos (by omega) (by omega), Lib.bitLenAux, if_neg h0, bitLenAux_len f (x / 2) (by rw [Nat.pow_succ] at h; omega), Nat.add_comm]
theorem bitLen_len (x : Nat) (h : x < 18446744073709551616) : Lib.bitLen x = Dg.len 2 x := bitLenAux_len 64 x h

theorem bitLen_top (x : Nat) (h0 : 0 < x) (h1 : x < 4294967296) : ∃ s : Nat, s < 32 ∧ (32 - (Lib.bitLen x : Int)) = s ∧ x * 2 ^ s < 4294967296 := by
  rw [bitLen_len x (by omega)]
  have hl : Dg.len 2 x ≤ 32 := (Dg.len_le_iff (by omega) x 32).2 h1
  have hp : 0 < Dg.len 2 x := (Dg.len_pos_iff (by omega) x).2 h0
  refine ⟨32 - Dg.len 2 x, by omega, by omega, ?_⟩
  have h2 := Dg.lt_pow_len (B := 2) (by omega) x
  have h3 : 2 ^ Dg.len 2 x * 2 ^ (32 - Dg.len 2 x) = 4294967296 := by rw [← Nat.pow_add, show Dg.len 2 x + (32 - Dg.len 2 x) = 32 from by omega]
  rw [← h3]
  exact Nat.mul_lt_mul_of_pos_right h2 (Nat.pow_pos (by omega))

/-- The facts on the shifted numbers. -/
theorem div_facts {a b A V na n s x : Nat} (hs : s < 32) (hx : x = Dg.dg LB b (n - 1)) (hx0 : 0 < x) (hxs : x * 2 ^ s < 4294967296) (hn0 : 0 < n) (hal : a < LB ^ na) (hbl : b < LB ^ n) (hnn : n ≤ na) (hA : A = a * 2 ^ s) (hV : V = b * 2 ^ s) :
    0 < V ∧ V < LB ^ n ∧ A < V * LB ^ (na - n + 1) ∧ V / LB ^ (n - 1) = Dg.dg LB V (n - 1) ∧ 0 < Dg.dg LB V (n - 1) ∧ A / V = a / b ∧ A % V = a % b * 2 ^ s ∧ V * LB ≤ LB ^ (n + 1) := by
  have h2p : 0 < 2 ^ s := Nat.pow_pos (by omega)
  obtain ⟨m, rfl⟩ : ∃ m, n = m + 1 := ⟨n - 1, by omega⟩
  rw [Nat.add_sub_cancel] at hx ⊢
  have hp : 0 < LB ^ m := Nat.pow_pos LBpos
  have hbm : LB ^ m * x ≤ b := by
    have h := Nat.div_mul_le_self b (LB ^ m)
    have h1 : b / LB ^ m = x := by
      rw [hx]; unfold Dg.dg
      rw [Nat.mod_eq_of_lt]
      rw [Nat.div_lt_iff_lt_mul hp, Nat.mul_comm, ← Nat.pow_succ]; exact hbl
    rw [h1, Nat.mul_comm] at h; exact h
  have hb1 : b < LB ^ m * (x + 1) := by
    have h1 : b / LB ^ m = x := by
      rw [hx]; unfold Dg.dg
      rw [Nat.mod_eq_of_lt]
      rw [Nat.div_lt_iff_lt_mul hp, Nat.mul_comm, ← Nat.pow_succ]; exact hbl
    have := Nat.lt_mul_div_succ b hp
    rw [h1] at this; exact this
  obtain ⟨r, hr⟩ : ∃ r, LB = 2 ^ s * r := ⟨2 ^ (32 - s), by rw [← Nat.pow_add, show s + (32 - s) = 32 from by omega]; rfl⟩
  have hxr : (x + 1) * 2 ^ s ≤ LB := by
    have h1 : x * 2 ^ s < 2 ^ s * r := by rw [← hr]; exact hxs
    rw [Nat.mul_comm] at h1
    have h2 : x < r := Nat.lt_of_mul_lt_mul_left h1
    rw [hr, Nat.mul_comm]; exact Nat.mul_le_mul_left _ h2
  have hb0 : 0 < b := Nat.lt_of_lt_of_le (Nat.mul_pos hp hx0) hbm
  have hVp : 0 < V := by rw [hV]; exact Nat.mul_pos hb0 h2p
  have hVl : V < LB ^ (m + 1) := by
    rw [hV]
    refine Nat.lt_of_lt_of_le (Nat.mul_lt_mul_of_pos_right hb1 h2p) ?_
    rw [Nat.mul_assoc, Nat.pow_succ]; exact Nat.mul_le_mul_left _ hxr
  have hdg : V / LB ^ m = Dg.dg LB V m := by
    unfold Dg.dg
    rw [Nat.mod_eq_of_lt]
    rw [Nat.div_lt_iff_lt_mul hp, Nat.mul_comm, ← Nat.pow_succ]; exact hVl
  refine ⟨hVp, hVl, ?_, hdg, ?_, ?_, ?_, ?_⟩
  · rw [hA, hV, Nat.mul_right_comm]
    refine Nat.mul_lt_mul_of_pos_right ?_ h2p
    refine Nat.lt_of_lt_of_le hal ?_
    have h1 : LB ^ m * LB ^ (na - (m + 1) + 1) = LB ^ na := by rw [← Nat.pow_add]; congr 1; omega
    rw [← h1]
    exact Nat.mul_le_mul_right _ (Nat.le_trans (Nat.le_mul_of_pos_right _ hx0) hbm)
  · rw [← hdg]
    refine Nat.div_pos ?_ hp
    rw [hV]
    exact Nat.le_trans (Nat.le_trans (Nat.le_mul_of_pos_right _ hx0) hbm) (Nat.le_mul_of_pos_right _ h2p)
  · rw [hA, hV, Nat.mul_div_mul_right _ _ h2p]
  · rw [hA, hV, Nat.mul_mod_mul_right]
  · rw [Nat.pow_succ LB (m + 1)]; exact Nat.mul_le_mul_right _ (Nat.le_of_lt hVl)

/-- A guess that is too great, made less by 1. -/
theorem guess_less {W V t L : Nat} (hV : 0 < V) (hlt : W < t * V) (htV : t * V < LB ^ L) :
    1 ≤ t ∧ W + LB ^ L - t * V < LB ^ L ∧ W + LB ^ L - t * V + V = W + LB ^ L - (t - 1) * V ∧ (!decide (LB ^ L ≤ W + LB ^ L - t * V + V)) = decide (W < (t - 1) * V) := by
  have ht : 1 ≤ t := by
    rcases Nat.eq_zero_or_pos t with h | h
    · subst h; simp at hlt
    · exact h
  obtain ⟨u, rfl⟩ : ∃ u, t = u + 1 := ⟨t - 1, by omega⟩
  rw [Nat.add_sub_cancel]
  rw [Nat.succ_mul] at hlt htV ⊢
  generalize u * V = y at *
  refine ⟨ht, by omega, by omega, ?_⟩
  by_cases h : W < y
  · have : ¬ LB ^ L ≤ W + LB ^ L - (y + V) + V := by omega
    simp only [h, this, decide_true, decide_false, Bool.not_false]
  · have : LB ^ L ≤ W + LB ^ L - (y + V) + V := by omega
    simp only [h, this, decide_true, decide_false, Bool.not_true]

/-- A digit shifted back as the program reckons it. -/
theorem back_eq (d1 d0 R s i : Nat) (hs : s < 32) (h1 : d1 < 4294967296) (h0 : d0 < 4294967296) (e1 : d1 = Dg.dg LB (R * 2 ^ s) (i + 1)) (e0 : d0 = Dg.dg LB (R * 2 ^ s) i) :
    bits BinOp.or IntKind.u64 ((d1 : Int) * 4294967296) (d0 : Int) / 2 ^ s % 4294967296 = ((Dg.dg LB R i : Nat) : Int) := by
  have e : ((d1 : Int) * 4294967296) = ((d1 * 4294967296 : Nat) : Int) := by simp
  have e2 : (d1 * 4294967296) ||| d0 = d1 * 4294967296 + d0 := nat_join 32 _ _ (by omega) (by omega)
  have h := Dg.shift_back (B := LB) (R := R) (s := s) (i := i) LBpos (Nat.pow_pos (by omega)) ⟨2 ^ (32 - s), by rw [← Nat.pow_add, show s + (32 - s) = 32 from by omega]; rfl⟩
  rw [← e1, ← e0, LB_eq] at h
  rw [e, u64_or_nat _ _ (by omega) (by omega), e2, LB_eq, ← h]
  simp

/-- The guess as the program reckons it. -/
theorem guess_eq (d1 d0 vt : Nat) (h1 : d1 < 4294967296) (h0 : d0 < 4294967296) (_hv : 1 ≤ vt) :
    min (IntKind.u64.wrap ((bits BinOp.or IntKind.u64 ((d1 : Int) * 4294967296) (d0 : Int)).tdiv (vt : Int))) 4294967295 = ((min ((d1 * LB + d0) / vt) (LB - 1) : Nat) : Int) := by
  have e1 : ((d1 : Int) * 4294967296) = ((d1 * 4294967296 : Nat) : Int) := by simp
  have e2 : (d1 * 4294967296) ||| d0 = d1 * 4294967296 + d0 := nat_join 32 _ _ (by omega) (by omega)
  rw [e1, u64_or_nat _ _ (by omega) (by omega), e2, LB_eq, ← Int.ofNat_tdiv, IntKind.wrap_u64]
  have h3 : (d1 * 4294967296 + d0) / vt ≤ d1 * 4294967296 + d0 := Nat.div_le_self _ _
  generalize (d1 * 4294967296 + d0) / vt = t at *
  omega

set_option maxRecDepth 100000 in
set_option maxHeartbeats 3200000 in
theorem div_ge (ao bo : Option Addr) (na c n d a b : Nat) (w : World) (ha : Num w ao na c a) (hb : Num w bo n d b) (hb0 : 0 < b) (hab : b ≤ a) (hna : na ≤ 10000000) :
    Calls Tryz.prog 42 #[.slice ao na c, .slice bo n d] w (RetDiv w (a / b) (a % b)) := by
  have hcm : 0 ≤ cmpN a b := by unfold cmpN; rw [if_neg (by omega)]; split <;> omega
  obtain ⟨cm, hcmd⟩ : ∃ cm, cm = cmpN a b := ⟨_, rfl⟩
  rw [← hcmd] at hcm
  have HCM := Lib.hid hcmd; clear hcmd
  have hn0 : 0 < n := by rw [hb.len]; exact (Dg.len_pos_iff LB2 b).2 hb0
  have hnn : n ≤ na := by rw [ha.len, hb.len]; exact Dg.len_mono LB2 hab
  have hal : a < LB ^ na := ha.lt
  have hbl : b < LB ^ n := hb.lt
  have htop : 0 < Dg.dg LB b (n - 1) := by rw [hb.len]; exact Dg.dg_top LB2 hb0
  obtain ⟨x, hx⟩ : ∃ x, x = Dg.dg LB b (n - 1) := ⟨_, rfl⟩
  have hxl : x < 4294967296 := by rw [hx]; exact Dg.dg_lt LBpos _ _
  rw [← hx] at htop
  obtain ⟨s, hs, hsi, hxs⟩ := bitLen_top x htop hxl
  have hcb : w.cell? ⟨blk bo, off bo + (n - 1), none⟩ = some (.int .u32 (x : Nat)) := by rw [hx]; exact hb.rd.cell _ (by omega)
  have hsb := hb.rd.sh
  have HX := Lib.hid hx; have HAL := Lib.hid hal; have HBL := Lib.hid hbl; have HSI := Lib.hid hsi; have HXS := Lib.hid hxs; have HAB := Lib.hid hab
  clear hx hal hbl hsi hxs hab
  go_enter Tryz.func42, Tryz.ntmps42
  go_upto_region 7 with (first
    | (go_at_call 72; refine (cmp_any _ _ _ _ _ _ a b _ ha hb).mono ?_; rintro e w' ⟨rfl, q, rfl⟩; rw [← HCM.out]; have ha' := ha.drewN q; have hb' := hb.drewN q; have hbq := below_drawn (Below.refl w.heap.size w) q)
    | (go_at_call 73; refine (Tryz.bits_LeadingZeros32 (x : Int) _ (by omega) (by omega)).mono ?_; rintro e w' ⟨rfl, rfl⟩; rw [Int.toNat_natCast, HSI.out]))
  have hbn : 0 < 2 ^ s := Nat.pow_pos (by omega)
  go_cut [9, 10] (fun u v wx => ∃ g1 g2, u = .slice (some ⟨g1, 0, none⟩) (na + 1) (na + 1) ∧ v = .slice (some ⟨g2, 0, none⟩) n (n + 1) ∧ Own wx .u32 60 g1 (na + 1) (Dg.dg LB (a * 2 ^ s)) ∧ Own wx .u32 60 g2 (n + 1) (Dg.dg LB (b * 2 ^ s)) ∧ g1 ≠ g2 ∧ w.heap.size ≤ g1 ∧ w.heap.size ≤ g2 ∧ Below w.heap.size w wx)
  case first =>
    go_region_with (first
      | (go_at_call_of 74 (Value.slice ao na c); refine (shl_any ao na c a s _ ?_ HAL.out (by omega) hs).mono ?_; exact ha.rd.below (below_drawn (Below.refl w.heap.size w) _) (Nat.le_refl _); rintro e w1 ⟨g1, rfl, hg1, hown1, hb1⟩)
      | (go_at_call_of 74 (Value.slice bo n d); refine (shl_any bo n d b s _ ?_ HBL.out (by omega) hs).mono ?_; exact (hb.rd.below (below_drawn (Below.refl w.heap.size w) _) (Nat.le_refl _)).below hb1 (Nat.le_refl _); rintro e w2 ⟨g2, rfl, hg2, hown2, hb2⟩))
    go_wp2_with fail
    go_meet
    exact ⟨g1, g2, rfl, rfl, hown1.below hb2 (Nat.le_refl _), hown2, by have := hown1.lt; omega, hg1, Nat.le_trans hb1.size hg2, ((below_drawn (Below.refl w.heap.size w) _).trans hb1).trans (hb2.mono hb1.size)⟩
  case rest =>
    obtain ⟨g1, g2, rfl, rfl, hu, hv0, hgg, hg1, hg2, hbel⟩ := hcut
    have hv : Rd _ .u32 (some ⟨g2, 0, none⟩) n (n + 1) (Dg.dg LB (b * 2 ^ s)) := hv0.rd.take (Nat.le_succ n)
    obtain ⟨A, hA⟩ : ∃ A, A = a * 2 ^ s := ⟨_, rfl⟩
    obtain ⟨V, hV⟩ : ∃ V, V = b * 2 ^ s := ⟨_, rfl⟩
    rw [← hA] at hu
    rw [← hV] at hv
    have HA := Lib.hid hA; have HV := Lib.hid hV
    clear hA hV hv0
    go_wp2_with (refine wpList_make_row _ rfl (.tmp 45) (.tmp 45) _ rfl 60 .u32 4 Tryz.underlying72 info32 .i64 .i64 _ _ (na - n + 1) rfl rfl (by omega) (by omega) (by omega) (by omega) ?_; intro gq w3 hgq hq hb3)
    have F := div_facts hs HX.out htop HXS.out hn0 HAL.out HBL.out hnn HA.out HV.out
    have HF := Lib.hid F; clear F
    have hbel3 : Below w.heap.size w w3 := hbel.trans (hb3.mono hbel.size)
    have hu3 := hu.below hb3 (Nat.le_refl _)
    have hv3 := hv.below hb3 (Nat.le_refl _)
    have hgqw : w.heap.size ≤ gq := Nat.le_trans hbel.size hgq
    have hgq1 : gq ≠ g1 := by have := hu.lt; omega
    have hgq2 : gq ≠ g2 := by have := hv.lt (j := 0) hn0; simp only [blk_some] at this; omega
    have hu4 : Own w3 .u32 60 g1 (na + 1) (Dg.dg LB (A % (V * LB ^ (na - n + 1)))) := by rw [Nat.mod_eq_of_lt HF.out.2.2.1]; exact hu3
    have hq4 : Own w3 .u32 60 gq (na - n + 1) (fun t => if na - n + 1 ≤ t then Dg.dg LB (a / b) t else 0) := hq.congr fun j hj => by rw [if_neg (by omega)]
    clear hu hu3 hq hv hb3 hbel hgq
    obtain ⟨wv, hwv⟩ : ∃ wv, wv = w3 := ⟨_, rfl⟩
    have hvw : Rd wv .u32 (some ⟨g2, 0, none⟩) n (n + 1) (Dg.dg LB V) := by rw [hwv]; exact hv3
    go_loopw [12] (fun jv wr => ∃ (x : Int) (k : Nat), (k : Int) = x + 1 ∧ -1 ≤ x ∧ k ≤ na - n + 1 ∧ jv = .int .i64 x ∧ Own wr .u32 60 g1 (na + 1) (Dg.dg LB (A % (V * LB ^ k))) ∧ Own wr .u32 60 gq (na - n + 1) (fun t => if k ≤ t then Dg.dg LB (a / b) t else 0) ∧ Rd wr .u32 (some ⟨g2, 0, none⟩) n (n + 1) (Dg.dg LB V) ∧ Below w.heap.size w wr) (fun jv _ => (intOf jv + 1).toNat)
    case atStart => exact ⟨_, na - n + 1, by omega, by omega, Nat.le_refl _, rfl, hu4, hq4, hv3, hbel3⟩
    case round =>
      obtain ⟨x, k, hkx, hx1, hk, rfl, hu, hq, hv, hbel⟩ := hrel
      clear hu4 hq4 hv3 hbel3 hvw hwv wv
      by_cases hx0 : x < 0
      · obtain rfl : k = 0 := by omega
        obtain ⟨R, hR⟩ : ∃ R, R = a % b := ⟨_, rfl⟩
        have hR2 : A % (V * LB ^ 0) = R * 2 ^ s := by rw [hR, Nat.pow_zero, Nat.mul_one]; exact HF.out.2.2.2.2.2.2.1
        have HR := Lib.hid hR; have HR2 := Lib.hid hR2; clear hR hR2
        have hu0 : Own wr .u32 60 g1 (na + 1) (fun t => if t < 0 then Dg.dg LB R t else Dg.dg LB (R * 2 ^ s) t) := hu.congr fun t _ => by rw [HR2.out, if_neg (by omega)]
        have hq0 : Own wr .u32 60 gq (na - n + 1) (Dg.dg LB (a / b)) := hq.congr fun t _ => by rw [if_pos (Nat.zero_le _)]
        clear hu hq hv hkx
        go_wp2_with fail
        obtain ⟨wo, rfl⟩ : ∃ wo : World, wo = wr := ⟨_, rfl⟩
        go_loopw [109] (fun iv wr => ∃ i : Nat, i ≤ n ∧ iv = .int .i64 i ∧ Own wr .u32 60 g1 (na + 1) (fun t => if t < i then Dg.dg LB R t else Dg.dg LB (R * 2 ^ s) t) ∧ Own wr .u32 60 gq (na - n + 1) (Dg.dg LB (a / b)) ∧ Below w.heap.size w wr) (fun iv _ => n - (intOf iv).toNat)
        case atStart => exact ⟨0, Nat.zero_le _, rfl, hu0, hq0, hbel⟩
        case round =>
          obtain ⟨i, hi, rfl, hu, hq, hbel⟩ := hrel
          clear hu0 hq0
          by_cases hin : i < n
          · have hc0 : wr.cell? ⟨g1, i, none⟩ = some (.int .u32 (Dg.dg LB (R * 2 ^ s) i : Nat)) := by simpa using hu.cell i (by omega)
            have hc1 : wr.cell? ⟨g1, i + 1, none⟩ = some (.int .u32 (Dg.dg LB (R * 2 ^ s) (i + 1) : Nat)) := by
              have h := hu.cell (i + 1) (by omega)
              rw [if_neg (by omega)] at h; exact h
            obtain ⟨d0, hd0⟩ : ∃ d, d = Dg.dg LB (R * 2 ^ s) i := ⟨_, rfl⟩
            obtain ⟨d1, hd1⟩ : ∃ d, d = Dg.dg LB (R * 2 ^ s) (i + 1) := ⟨_, rfl⟩
            rw [← hd0] at hc0; rw [← hd1] at hc1
            have hd0l : d0 < 4294967296 := by rw [hd0]; exact Dg.dg_lt LBpos _ _
            have hd1l : d1 < 4294967296 := by rw [hd1]; exact Dg.dg_lt LBpos _ _
            have HD0 := Lib.hid hd0; have HD1 := Lib.hid hd1; clear hd0 hd1
            have hf := hu.frozen i
            have hin' : (i : Int) < n := by omega
            go_wp2_with fail
            go_region
            go_wp2_with fail
            go_roundw
            case rel =>
              refine ⟨i + 1, by omega, by go_num, ?_, (hq.other _ hgq1).drew, (hbel.setCell hg1 _).drew⟩
              exact (own_set_int (h := fun t => if t < i + 1 then Dg.dg LB R t else Dg.dg LB (R * 2 ^ s) t) hu (back_eq d1 d0 R s i hs hd1l hd0l HD1.out HD0.out) (by rw [if_pos (Nat.lt_succ_self i)]) (fun t _ hne => by
                by_cases h1 : t < i
                · rw [if_pos h1, if_pos (by omega)]
                · rw [if_neg h1, if_neg (by omega)])).drew
            case measure => simp [intOf]; omega
          · obtain rfl : i = n := by omega
            have hru : Rd wr .u32 (some ⟨g1, 0, none⟩) i (na + 1) (Dg.dg LB R) := ⟨Sh.some _ _ _, by omega, by omega, fun t ht => by
              have h := hu.cell t (by omega)
              rw [if_pos ht] at h
              simpa [blk_some, off_some] using h⟩
            have hrq := hq.rd
            have hRl : R < LB ^ i := by rw [HR.out]; exact Nat.lt_trans (Nat.mod_lt _ hb0) HBL.out
            have hQl : a / b < LB ^ (na - i + 1) := by
              rw [← HF.out.2.2.2.2.2.1, Nat.div_lt_iff_lt_mul HF.out.1, Nat.mul_comm]; exact HF.out.2.2.1
            have tR := tl_dg R i hRl
            have tQ := tl_dg (a / b) (na - i + 1) hQl
            have HTR := Lib.hid tR; have HTQ := Lib.hid tQ
            clear hRl hQl tR tQ hin
            go_wp2_with fail
            go_quiet ((go_at_call 77; first | exact quiet_same (trim_any _ _ _ _ _ (hrq.drewN _)) | exact quiet_same (trim_any _ _ _ _ _ (hru.drewN _))))
            go_wp2_with fail
            go_ret3
            exact ⟨_, _, _, _, _, _, rfl, ⟨HTQ.out, (hrq.take (tl_le _ _)).drewN _⟩, ⟨by rw [HTR.out, HR.out], by rw [← HR.out]; exact (hru.take (tl_le _ _)).drewN _⟩, below_drawn hbel _⟩
      · obtain ⟨j, rfl⟩ := Int.eq_ofNat_of_zero_le (by omega : 0 ≤ x)
        obtain rfl : k = j + 1 := by omega
        clear hkx hx1 hx0
        have hjn : j + n ≤ na := by omega
        obtain ⟨U, hU⟩ : ∃ U, U = A % (V * LB ^ (j + 1)) := ⟨_, rfl⟩
        rw [← hU] at hu
        have HU := Lib.hid hU; clear hU
        have hc1 : wr.cell? ⟨g1, j + n, none⟩ = some (.int .u32 (Dg.dg LB U (j + n) : Nat)) := hu.cell _ (by omega)
        have hc0 : wr.cell? ⟨g1, j + n - 1, none⟩ = some (.int .u32 (Dg.dg LB U (j + n - 1) : Nat)) := hu.cell _ (by omega)
        have hcv : wr.cell? ⟨g2, n - 1, none⟩ = some (.int .u32 (Dg.dg LB V (n - 1) : Nat)) := by simpa [blk_some, off_some] using hv.cell (n - 1) (by omega)
        obtain ⟨d1, hd1⟩ : ∃ d, d = Dg.dg LB U (j + n) := ⟨_, rfl⟩
        obtain ⟨d0, hd0⟩ : ∃ d, d = Dg.dg LB U (j + n - 1) := ⟨_, rfl⟩
        obtain ⟨vt, hvt⟩ : ∃ d, d = Dg.dg LB V (n - 1) := ⟨_, rfl⟩
        rw [← hd1] at hc1; rw [← hd0] at hc0; rw [← hvt] at hcv
        have hd1l : d1 < 4294967296 := by rw [hd1]; exact Dg.dg_lt LBpos _ _
        have hd0l : d0 < 4294967296 := by rw [hd0]; exact Dg.dg_lt LBpos _ _
        have hvtl : vt < 4294967296 := by rw [hvt]; exact Dg.dg_lt LBpos _ _
        have hvt0 : 1 ≤ vt := by rw [hvt]; exact HF.out.2.2.2.2.1
        have HD1 := Lib.hid hd1; have HD0 := Lib.hid hd0; have HVT := Lib.hid hvt
        clear hd1 hd0 hvt
        obtain ⟨gs, hgs⟩ : ∃ gs, gs = min ((d1 * LB + d0) / vt) (LB - 1) := ⟨_, rfl⟩
        obtain ⟨W, hW⟩ : ∃ W, W = U / LB ^ j := ⟨_, rfl⟩
        have hUl : U < V * LB ^ (j + 1) := by rw [HU.out]; exact Nat.mod_lt _ (Nat.mul_pos HF.out.1 (Nat.pow_pos LBpos))
        have hWl : W < V * LB := by
          rw [hW, Nat.div_lt_iff_lt_mul (Nat.pow_pos LBpos), Nat.mul_assoc, Nat.mul_comm LB, ← Nat.pow_succ]; exact hUl
        have hWL : W < LB ^ (n + 1) := Nat.lt_of_lt_of_le hWl HF.out.2.2.2.2.2.2.2
        have hge := Dg.guess_ge (W := W) (n := n) (top := d1 * LB + d0) (g := gs) LBpos (HVT.out.trans HF.out.2.2.2.1.symm) hvt0 (by
          have h1 : W / LB ^ (n - 1) = W / LB ^ (n - 1) % LB + LB * (W / LB ^ n) := by
            have h2 : W / LB ^ n = W / LB ^ (n - 1) / LB := by rw [Nat.div_div_eq_div_mul, ← Nat.pow_succ]; congr 2; omega
            rw [h2, Nat.mod_add_div]
          have h3 : W / LB ^ n < LB := by rw [Nat.div_lt_iff_lt_mul (Nat.pow_pos LBpos), Nat.mul_comm, ← Nat.pow_succ]; exact hWL
          have h4 : d0 = W / LB ^ (n - 1) % LB := by rw [HD0.out, show j + n - 1 = j + (n - 1) from by omega, ← Dg.dg_div, ← hW]; rfl
          have h5 : d1 = W / LB ^ n := by rw [HD1.out, ← Dg.dg_div, ← hW]; exact Nat.mod_eq_of_lt h3
          rw [h1, ← h4, ← h5, Nat.mul_comm]; omega) hWl HF.out.1 hgs
        have hgi := guess_eq d1 d0 vt hd1l hd0l hvt0
        rw [← hgs] at hgi
        have hgsl : gs < 4294967296 := Nat.lt_of_le_of_lt hge.2 (Nat.sub_lt LBpos Nat.one_pos)
        have hgV : ∀ t, t ≤ gs → t * V < LB ^ (n + 1) := fun t ht => by
          have h1 : t * V ≤ (LB - 1) * V := Nat.mul_le_mul_right _ (Nat.le_trans ht hge.2)
          have h2 : (LB - 1) * V + V = LB * V := by rw [← Nat.succ_mul, Nat.succ_eq_add_one, Nat.sub_add_cancel LBpos]
          have h3 := HF.out.2.2.2.2.2.2.2
          have h4 := HF.out.1
          rw [Nat.mul_comm V] at h3
          omega
        have hWdg : ∀ i, i < n + 1 → Dg.dg LB U (j + i) = Dg.dg LB W i := fun i _ => by rw [hW, Dg.dg_div]
        have HGS := Lib.hid hgs; have HW := Lib.hid hW; have HUL := Lib.hid hUl; have HWLL := Lib.hid hWl; have HWL := Lib.hid hWL; have HGE := Lib.hid hge; have HGI := Lib.hid hgi; have HGV := Lib.hid hgV; have HWDG := Lib.hid hWdg
        clear hgs hW hUl hWl hWL hge hgi hgV hWdg
        have hvg : blk (some ⟨g2, 0, none⟩) ≠ g1 := by simp only [blk_some]; omega
        go_wp2_with fail
        go_quiet (fail)
        go_wp2_with (go_at_call 75; rw [show j + n + 1 - j = n + 1 from by omega, HGI.out]; refine (take_any g1 j (n + 1) _ (na + 1) _ (some ⟨g2, 0, none⟩) n (n + 1) gs V W _ (hu.drewN _) (by omega) (by omega) HWDG.out HWL.out (hv.drewN _) hvg HF.out.2.1 hgsl (HGV.out gs (Nat.le_refl _)) (by omega) (by omega)).mono ?_; rintro e w4 ⟨rfl, hu4, hgr4⟩)
        have hq4 := (hq.drewN nq).grown hgr4 hgq1
        have hv4 := (hv.drewN nq).grown hgr4 hvg
        have hbel4 : Below w.heap.size w w4 := grown_below (below_drawn hbel nq) hgr4 hbel.size hg1
        clear hgr4
        obtain ⟨wo, rfl⟩ : ∃ wo : World, wo = wr := ⟨_, rfl⟩
        go_loopw [14, 15] (fun gv uv wr => ∃ t : Nat, gv = .int .u64 t ∧ uv = .bool (decide (W < t * V)) ∧ t ≤ gs ∧ Hid (W / V ≤ t) ∧ Own wr .u32 60 g1 (na + 1) (fun i => if j ≤ i ∧ i < j + (n + 1) then Dg.dg LB (W + LB ^ (n + 1) - t * V) (i - j) else Dg.dg LB U i) ∧ Own wr .u32 60 gq (na - n + 1) (fun t => if j + 1 ≤ t then Dg.dg LB (a / b) t else 0) ∧ Rd wr .u32 (some ⟨g2, 0, none⟩) n (n + 1) (Dg.dg LB V) ∧ Below w.heap.size w wr) (fun gv _ _ => (intOf gv).toNat)
        case atStart => exact ⟨gs, rfl, rfl, Nat.le_refl _, HGE.out.1, hu4, hq4, hv4, hbel4⟩
        case round =>
          obtain ⟨t, rfl, rfl, htg, htq, hu, hq, hv, hbel⟩ := hrel
          clear hu4 hq4 hv4 hbel4
          obtain ⟨B, hB⟩ : ∃ B : Bool, B = decide (W < t * V) := ⟨_, rfl⟩
          rw [← hB]
          cases B with
          | true =>
            have hlt : W < t * V := of_decide_eq_true hB.symm
            have GL := guess_less HF.out.1 hlt (HGV.out t htg)
            have HGL := Lib.hid GL; clear GL
            have ht1 := HGL.out.1
            have HLT := Lib.hid hlt; clear hlt hB
            go_wp2_with (go_at_call 76; rw [show j + n + 1 - j = n + 1 from by omega]; refine (give_any g1 j (n + 1) _ (na + 1) _ (some ⟨g2, 0, none⟩) n (n + 1) V (W + LB ^ (n + 1) - t * V) _ hu (by omega) (by omega) (fun i hi => by rw [if_pos (by omega), Nat.add_sub_cancel_left]) HGL.out.2.1 hv hvg HF.out.2.1 (by omega) (by omega) (by omega)).mono ?_; rintro e w5 ⟨rfl, hu5, hgr5⟩; rw [HGL.out.2.2.1])
            have hq5 := hq.grown hgr5 hgq1
            have hv5 := hv.grown hgr5 hvg
            have hbel5 : Below w.heap.size w w5 := grown_below hbel hgr5 hbel.size hg1
            have hu6 : Own w5 .u32 60 g1 (na + 1) (fun i => if j ≤ i ∧ i < j + (n + 1) then Dg.dg LB (W + LB ^ (n + 1) - (t - 1) * V) (i - j) else Dg.dg LB U i) := hu5.congr fun i _ => by
              rw [HGL.out.2.2.1]
              by_cases h1 : j ≤ i ∧ i < j + (n + 1)
              · rw [if_pos h1, if_pos h1]
              · rw [if_neg h1, if_neg h1, if_neg h1]
            go_roundw
            case rel =>
              refine ⟨t - 1, ?_, ?_, by omega, ?_, hu6, hq5, hv5, hbel5⟩
              · rw [show ((t : Int) - 1) = ((t - 1 : Nat) : Int) from by omega]
              · have h := HGL.out.2.2.2
                rw [HGL.out.2.2.1] at h
                rw [h]
              · have h1 : W / V < t := by rw [Nat.div_lt_iff_lt_mul HF.out.1]; exact HLT.out
                show W / V ≤ t - 1
                omega
            case measure => simp [intOf]; omega
          | false =>
            have hlt : ¬ W < t * V := of_decide_eq_false hB.symm
            have htQ : t = W / V := Dg.quo_found HF.out.1 htq.out hlt
            have HTQ := Lib.hid htQ; have HLT := Lib.hid hlt; clear hB hlt htQ
            have hcq : wr.cell? ⟨gq, j, none⟩ = some (.int .u32 ((if j + 1 ≤ j then Dg.dg LB (a / b) j else 0 : Nat) : Int)) := hq.cell j (by omega)
            rw [if_neg (by omega)] at hcq
            have hfq := hq.frozen j
            have htl : t < 4294967296 := by omega
            have hdgq : t = Dg.dg LB (a / b) j := by
              rw [HTQ.out, HW.out, HU.out, ← HF.out.2.2.2.2.2.1]; exact Dg.quo_digit A V LB j
            have HDQ := Lib.hid hdgq; clear hdgq
            go_wp2_with fail
            go_roundw
            case rel =>
              refine ⟨_, j, ?_, ?_, by omega, rfl, ?_, ?_, ?_, ?_⟩
              · omega
              · omega
              · refine (hu.congr fun i _ => ?_).other _ hgq1.symm
                have h1 := Dg.rest_digit (A := A) (V := V) (j := j) LBpos HF.out.2.2.2.2.2.2.2 i
                rw [← HU.out, ← HW.out] at h1
                rw [← h1]
                by_cases h2 : j ≤ i ∧ i < j + (n + 1)
                · rw [if_pos h2, if_pos h2]
                  have h3 : W + LB ^ (n + 1) - t * V = W % V + LB ^ (n + 1) := by
                    have h4 := Nat.div_add_mod W V
                    rw [Nat.mul_comm, ← HTQ.out] at h4
                    omega
                  rw [h3, dg_add_pow (by omega)]
                · rw [if_neg h2, if_neg h2]
              · exact own_set_int hq (s := t) (by first | rfl | omega) (by rw [if_pos (Nat.le_refl _)]; exact HDQ.out) (fun i _ hne => by
                  by_cases h1 : j + 1 ≤ i
                  · rw [if_pos h1, if_pos (by omega)]
                  · rw [if_neg h1, if_neg (by omega)])
              · exact hv.other _ (by simp only [blk_some]; omega)
              · exact hbel.setCell hgqw _
            case measure => simp [intOf]
end Go.Proofs.YtjkjlbchbbpmaaaGreatDoor
/- limbs.left and read: the walks. -/
namespace Go.Proofs.YtjkjlbchbbpmaaaGreatDoor
open Go.RowKit

theorem div_any (ao bo : Option Addr) (na c n d a b : Nat) (w : World) (ha : Num w ao na c a) (hb : Num w bo n d b) (hb0 : 0 < b) (hna : na ≤ 10000000) :
    Calls Tryz.prog 42 #[.slice ao na c, .slice bo n d] w (RetDiv w (a / b) (a % b)) := by
  by_cases hab : a < b
  · have h := div_lt ao bo na c n d a b w ha hb hab
    rwa [Nat.div_eq_of_lt hab, Nat.mod_eq_of_lt hab]
  · exact div_ge ao bo na c n d a b w ha hb hb0 (by omega) hna

theorem left_any (ao bo : Option Addr) (na c n d a b : Nat) (w : World) (ha : Num w ao na c a) (hb : Num w bo n d b) (hb0 : 0 < b) (hna : na ≤ 10000000) :
    Calls Tryz.prog 92 #[.slice ao na c, .slice bo n d] w (RetNum w (a % b)) := by
  go_enter Tryz.func92, Tryz.ntmps92
  go_wp2_with (go_at_call 42; refine (div_any ao bo na c n d a b _ ha hb hb0 hna).mono ?_; rintro e w' ⟨qo, qn, qc, ro, rn, rc, rfl, hq, hr, hbel⟩)
  go_ret
  exact ⟨_, _, _, rfl, hr, hbel⟩

/-- The number that bytes say, the highest first. -/
def bv (l : List UInt8) : Nat := l.foldl (fun a c => a * 256 + c.toNat) 0

theorem bv_acc (l : List UInt8) : ∀ a : Nat, l.foldl (fun a c => a * 256 + c.toNat) a = a * 256 ^ l.length + bv l := by
  induction l with
  | nil => intro a; simp [bv]
  | cons c l ih =>
    intro a
    show l.foldl _ (a * 256 + c.toNat) = _
    have h : bv (c :: l) = l.foldl (fun a c => a * 256 + c.toNat) (0 * 256 + c.toNat) := rfl
    rw [ih, h, ih, List.length_cons, Nat.pow_succ, Nat.add_mul, Nat.zero_mul, Nat.zero_add, Nat.mul_assoc, Nat.mul_comm 256]
    omega
theorem bv_cons (c : UInt8) (l : List UInt8) : bv (c :: l) = c.toNat * 256 ^ l.length + bv l := by
  show l.foldl (fun a c => a * 256 + c.toNat) (0 * 256 + c.toNat) = _
  rw [bv_acc]; simp
theorem bv_nil : bv [] = 0 := rfl
theorem bv_append (l m : List UInt8) : bv (l ++ m) = bv l * 256 ^ m.length + bv m := by
  unfold bv; rw [List.foldl_append, bv_acc]; rfl
theorem bv_lt (l : List UInt8) : bv l < 256 ^ l.length := by
  induction l with
  | nil => simp [bv_nil]
  | cons c l ih =>
    rw [bv_cons, List.length_cons, Nat.pow_succ]
    have h1 : c.toNat < 256 := c.toNat_lt
    have h2 : c.toNat * 256 ^ l.length + 256 ^ l.length ≤ 256 ^ l.length * 256 := by
      rw [← Nat.succ_mul, Nat.mul_comm]; exact Nat.mul_le_mul_left _ h1
    omega

/-- The number of a string's last i bytes. -/
def tailv (s : ByteArray) (i : Nat) : Nat := bv (s.data.toList.drop (s.size - i))
theorem tailv_zero (s : ByteArray) : tailv s 0 = 0 := by
  unfold tailv; rw [List.drop_eq_nil_of_le (by simp), bv_nil]
theorem tailv_lt (s : ByteArray) (i : Nat) (h : i ≤ s.size) : tailv s i < 256 ^ i := by
  have := bv_lt (s.data.toList.drop (s.size - i))
  rw [List.length_drop] at this
  have e : s.data.toList.length - (s.size - i) = i := by
    have : s.data.toList.length = s.size := by simp
    omega
  rwa [e] at this
theorem tailv_succ (s : ByteArray) (i : Nat) (h : i < s.size) : tailv s (i + 1) = tailv s i + (s[s.size - 1 - i]'(by omega)).toNat * 256 ^ i := by
  unfold tailv
  have hl : s.data.toList.length = s.size := by simp
  rw [List.drop_eq_getElem_cons (i := s.size - (i + 1)) (by omega), bv_cons]
  have e1 : s.size - (i + 1) + 1 = s.size - i := by omega
  have e2 : (s.data.toList.drop (s.size - i)).length = i := by rw [List.length_drop]; omega
  rw [e1, e2, Nat.add_comm]
  have e3 : s.data.toList[s.size - (i + 1)]'(by omega) = s[s.size - 1 - i]'(by omega) := by
    show s.data.toList[s.size - (i + 1)]'(by omega) = s.data[s.size - 1 - i]'(by have : s.data.size = s.size := rfl; omega)
    rw [Array.getElem_toList]
    congr 1
    omega
  rw [e3]
theorem tailv_all (s : ByteArray) : tailv s s.size = bv s.data.toList := by unfold tailv; simp

/-- One round of reading. -/
theorem read_step {T c i d : Nat} (hT : T < 256 ^ i) (hc : c < 256) (hd : d = Dg.dg LB T (i / 4)) :
    (d ||| c * 2 ^ (8 * (i % 4))) = Dg.dg LB (T + c * 256 ^ i) (i / 4) ∧ c * 2 ^ (8 * (i % 4)) < 4294967296 ∧ ∀ j, j ≠ i / 4 → Dg.dg LB T j = Dg.dg LB (T + c * 256 ^ i) j := by
  have hLB : LB = 256 ^ 4 := rfl
  have e2 : 2 ^ (8 * (i % 4)) = 256 ^ (i % 4) := by rw [show (256 : Nat) = 2 ^ 8 from rfl, ← Nat.pow_mul]
  have e1 : 256 ^ i = LB ^ (i / 4) * 256 ^ (i % 4) := by rw [hLB, ← Nat.pow_mul, ← Nat.pow_add, Nat.div_add_mod]
  have hp : 0 < LB ^ (i / 4) := Nat.pow_pos LBpos
  have hr : i % 4 < 4 := Nat.mod_lt _ (by omega)
  have hdl : T / LB ^ (i / 4) < 256 ^ (i % 4) := by rw [Nat.div_lt_iff_lt_mul hp, Nat.mul_comm, ← e1]; exact hT
  have hmx : 256 ^ (i % 4) ≤ 256 ^ 3 := Nat.pow_le_pow_right (by omega) (by omega)
  have hcl : c * 256 ^ (i % 4) ≤ 255 * 256 ^ (i % 4) := Nat.mul_le_mul_right _ (by omega)
  have hB3 : 256 ^ (i % 4) + 255 * 256 ^ (i % 4) ≤ LB := by rw [LB_eq]; omega
  have hd' : d = T / LB ^ (i / 4) := by rw [hd]; unfold Dg.dg; rw [Nat.mod_eq_of_lt (by omega)]
  have hX : T + c * 256 ^ i = T + LB ^ (i / 4) * (c * 256 ^ (i % 4)) := by rw [e1, Nat.mul_left_comm]
  refine ⟨?_, by rw [e2]; omega, fun j hj => ?_⟩
  · have hj := nat_join (8 * (i % 4)) (c * 256 ^ (i % 4)) d (by rw [e2]; simp) (by rw [e2, hd']; exact hdl)
    have e5 : (T + LB ^ (i / 4) * (c * 256 ^ (i % 4))) / LB ^ (i / 4) = d + c * 256 ^ (i % 4) := by
      rw [Nat.add_mul_div_left _ _ hp, ← hd']
    rw [e2, Nat.or_comm, hj, hX]
    unfold Dg.dg
    rw [e5, Nat.mod_eq_of_lt (a := d + c * 256 ^ (i % 4)) (by rw [hd']; omega), Nat.add_comm]
  · rcases Nat.lt_or_gt_of_ne hj with h | h
    · rw [hX]
      unfold Dg.dg
      obtain ⟨t, ht⟩ : ∃ t, i / 4 = j + 1 + t := ⟨i / 4 - (j + 1), by omega⟩
      have e4 : LB ^ (i / 4) * (c * 256 ^ (i % 4)) = LB ^ j * (LB * (LB ^ t * (c * 256 ^ (i % 4)))) := by
        rw [ht, Nat.pow_add, Nat.pow_succ]; simp only [Nat.mul_assoc]
      rw [e4, Nat.add_mul_div_left _ _ (Nat.pow_pos LBpos), Nat.add_mul_mod_self_left]
    · have h1 : T + c * 256 ^ i < LB ^ (i / 4 + 1) := by
        rw [hX]
        have h2 : T < LB ^ (i / 4) * 256 ^ (i % 4) := by rw [← e1]; exact hT
        have h3 : LB ^ (i / 4) * 256 ^ (i % 4) + LB ^ (i / 4) * (c * 256 ^ (i % 4)) ≤ LB ^ (i / 4) * LB := by
          rw [← Nat.mul_add]; exact Nat.mul_le_mul_left _ (by rw [LB_eq]; omega)
        rw [Nat.pow_succ]; omega
      rw [Dg.dg_of_lt_le LBpos h1 (by omega), Dg.dg_of_lt_le LBpos (i := i / 4 + 1) (by omega) (by omega)]

/-- As RetNum; the number begins at a block's head. -/
def RetNumZ (w : World) (v : Nat) (e : Ending) (w' : World) : Prop :=
  ∃ ro k cap, e = .returned (.slice ro k cap) ∧ Num w' ro k cap v ∧ Below w.heap.size w w' ∧ off ro = 0

set_option maxRecDepth 100000 in
set_option maxHeartbeats 800000 in
theorem read_any (s : ByteArray) (w : World) (hs : s.size ≤ 10000000) :
    Calls Tryz.prog 71 #[.string s] w (RetNumZ w (bv s.data.toList)) := by
  go_enter Tryz.func71, Tryz.ntmps71
  go_wp2_with (refine wpList_make_row _ rfl (.tmp 9) (.tmp 9) _ rfl 60 .u32 4 Tryz.underlying72 info32 .i64 .i64 _ _ ((s.size + 3) / 4) rfl rfl (by omega) (by omega) (by omega) (by omega) ?_; intro g w1 hg hown1 hb1)
  have hown2 : Own w1 .u32 60 g ((s.size + 3) / 4) (Dg.dg LB (tailv s 0)) := hown1.congr fun j _ => by rw [tailv_zero, Dg.dg_zero]
  clear hown1
  go_loopw [13] (fun i wr => ∃ k : Nat, k ≤ s.size ∧ i = .int .i64 k ∧ Own wr .u32 60 g ((s.size + 3) / 4) (Dg.dg LB (tailv s k)) ∧ Below w.heap.size w wr) (fun i _ => s.size - (intOf i).toNat)
  case atStart => exact ⟨0, Nat.zero_le _, rfl, hown2, hb1⟩
  case round =>
    obtain ⟨i, hi, rfl, hown, hbel⟩ := hrel
    clear hown2
    by_cases hin : i < s.size
    · have hco : wr.cell? ⟨g, i / 4, none⟩ = some (.int .u32 (Dg.dg LB (tailv s i) (i / 4) : Nat)) := hown.cell (i / 4) (by omega)
      obtain ⟨d, hd⟩ : ∃ d, d = Dg.dg LB (tailv s i) (i / 4) := ⟨_, rfl⟩
      rw [← hd] at hco
      have hdl : d < 4294967296 := by rw [hd]; exact Dg.dg_lt LBpos _ _
      have HD := Lib.hid hd; clear hd
      have hf := hown.frozen (i / 4)
      have hk : s.size - 1 - i < s.size := by omega
      obtain ⟨c, hc⟩ : ∃ c, c = (s[s.size - 1 - i]'hk).toNat := ⟨_, rfl⟩
      have hcl : c < 256 := by rw [hc]; exact UInt8.toNat_lt _
      have hix : ∀ W : World, (Instr.index 9 (.string s) (.int .i64 ((s.size : Int) - 1 - (i : Int)))).run Tryz.prog W = .ok (.int .u8 (c : Nat)) W := fun W => by
        have e : ((s.size : Int) - 1 - (i : Int)).toNat = s.size - 1 - i := by omega
        have e0 : (i : Int) ≤ (s.size : Int) - 1 := by omega
        simp [Instr.index, asIntOf, run_underlying Tryz.underlying9, e, e0, hc, getElem?_pos s (s.size - 1 - i) hk]
      have HC := Lib.hid hc; clear hc
      go_wp2_with fail
      go_region
      go_wp2_with fail
      have R := read_step (tailv_lt s i hi) hcl HD.out
      have hT : tailv s (i + 1) = tailv s i + c * 256 ^ i := by rw [HC.out]; exact tailv_succ s i hin
      rw [← hT] at R
      go_roundw
      case rel =>
        have e1 : bits BinOp.or IntKind.u32 (d : Int) ((c : Int) * 2 ^ (8 * (i % 4)) % 4294967296) = ((d ||| c * 2 ^ (8 * (i % 4)) : Nat) : Int) := by
          rw [← u32_or_nat d _ hdl R.2.1]
          congr 1
          have h := R.2.1
          have e : ((c : Int) * 2 ^ (8 * (i % 4))) = ((c * 2 ^ (8 * (i % 4)) : Nat) : Int) := by simp
          rw [e]
          generalize c * 2 ^ (8 * (i % 4)) = y at *
          omega
        exact ⟨i + 1, by omega, by go_num, (own_set_int hown e1 R.1 (fun j _ hj => R.2.2 j hj)).drew, (hbel.setCell hg _).drew⟩
      case measure => simp [intOf]; omega
    · obtain rfl : i = s.size := by omega
      have hrd := hown.rd
      rw [tailv_all] at hrd
      have hlt : bv s.data.toList < LB ^ ((s.size + 3) / 4) := by
        refine Nat.lt_of_lt_of_le (bv_lt _) ?_
        have e : s.data.toList.length = s.size := by simp
        rw [e, show LB = 256 ^ 4 from rfl, ← Nat.pow_mul]
        exact Nat.pow_le_pow_right (by omega) (by omega)
      have HLT := Lib.hid hlt; clear hlt
      go_wp2_with (go_at_call 77; refine (trim_num _ _ _ _ _ hrd HLT.out).mono ?_; rintro e w' ⟨k, rfl, hnum, rfl⟩)
      go_ret
      exact ⟨_, _, _, rfl, hnum, hbel, rfl⟩
end Go.Proofs.YtjkjlbchbbpmaaaGreatDoor
/- Bytes of numbers: plain. -/
namespace Go.Proofs.YtjkjlbchbbpmaaaGreatDoor
open Go.RowKit

/-- A number's bytes, the highest first, without noughts ahead. -/
def fm (v : Nat) : List UInt8 := if _h : v = 0 then [] else fm (v / 256) ++ [UInt8.ofNat (v % 256)]
termination_by v
decreasing_by exact Nat.div_lt_self (by omega) (by omega)

theorem fm_zero : fm 0 = [] := by rw [fm]; simp
theorem fm_pos {v : Nat} (h : 0 < v) : fm v = fm (v / 256) ++ [UInt8.ofNat (v % 256)] := by rw [fm, dif_neg (by omega)]

theorem toNat_ofNat8 (n : Nat) (h : n < 256) : (UInt8.ofNat n).toNat = n := by
  simp [UInt8.toNat_ofNat']; omega

theorem bv_fm (v : Nat) : bv (fm v) = v := by
  induction v using Nat.strongRecOn with
  | _ v ih =>
    by_cases h : v = 0
    · subst h; rw [fm_zero, bv_nil]
    · rw [fm_pos (by omega), bv_append, ih (v / 256) (Nat.div_lt_self (by omega) (by omega)), bv_cons, bv_nil, toNat_ofNat8 _ (Nat.mod_lt _ (by omega))]
      simp
      omega

theorem fm_length (v : Nat) : (fm v).length = Dg.len 256 v := by
  induction v using Nat.strongRecOn with
  | _ v ih =>
    by_cases h : v = 0
    · subst h; rw [fm_zero, Dg.len_zero]; rfl
    · rw [fm_pos (by omega), Dg.len_pos (by omega) (by omega), List.length_append, ih (v / 256) (Nat.div_lt_self (by omega) (by omega))]
      rfl

/-- The first byte is not 0. -/
def Lead (l : List UInt8) : Prop := l = [] ∨ l.head? ≠ some 0

theorem bv_pos_of_lead {c : UInt8} {l : List UInt8} (h : c ≠ 0) : 0 < bv (c :: l) := by
  rw [bv_cons]
  have h1 : 0 < c.toNat := by
    rcases Nat.eq_zero_or_pos c.toNat with h2 | h2
    · exact absurd (UInt8.toNat_inj.1 h2) h
    · exact h2
  have : 0 < c.toNat * 256 ^ l.length := Nat.mul_pos h1 (Nat.pow_pos (by omega))
  omega

theorem fm_bv_rev : ∀ m : List UInt8, Lead m.reverse → fm (bv m.reverse) = m.reverse
  | [], _ => by simp [bv_nil, fm_zero]
  | c :: m, h => by
    have e : (c :: m).reverse = m.reverse ++ [c] := by simp
    rw [e] at h ⊢
    have hb : bv (m.reverse ++ [c]) = bv m.reverse * 256 + c.toNat := by rw [bv_append, bv_cons, bv_nil]; simp
    have hc := c.toNat_lt
    have hd : (bv m.reverse * 256 + c.toNat) / 256 = bv m.reverse := by omega
    have hm : (bv m.reverse * 256 + c.toNat) % 256 = c.toNat := by omega
    have hpos : 0 < bv m.reverse * 256 + c.toNat := by
      rw [← hb]
      cases hr : m.reverse with
      | nil =>
        rw [hr] at h
        rcases h with h | h
        · simp at h
        · refine bv_pos_of_lead (l := []) ?_
          intro h2; subst h2; simp at h
      | cons d r =>
        rw [hr] at h
        rcases h with h | h
        · simp at h
        · refine bv_pos_of_lead (l := r ++ [c]) ?_
          intro h2; subst h2; simp at h
    have hlead : Lead m.reverse := by
      cases hr : m.reverse with
      | nil => exact Or.inl rfl
      | cons d r =>
        rw [hr] at h
        rcases h with h | h
        · simp at h
        · right; simpa using h
    rw [hb, fm_pos hpos, hd, hm, fm_bv_rev m hlead]
    congr 2
    exact UInt8.toNat_inj.1 (toNat_ofNat8 _ hc)

theorem fm_bv (l : List UInt8) (h : Lead l) : fm (bv l) = l := by
  have := fm_bv_rev l.reverse (by simpa using h)
  simpa using this

theorem trim_lead (l : List UInt8) : Lead (Lib.trimLeftB l 0) ∧ bv (Lib.trimLeftB l 0) = bv l := by
  unfold Lib.trimLeftB
  induction l with
  | nil => exact ⟨Or.inl rfl, rfl⟩
  | cons c l ih =>
    by_cases h : c = 0
    · subst h
      simp only [List.dropWhile_cons, beq_self_eq_true, if_true]
      exact ⟨ih.1, by rw [ih.2, bv_cons]; simp⟩
    · simp only [List.dropWhile_cons, beq_iff_eq, h, if_false]
      exact ⟨Or.inr (by simpa using h), trivial⟩

/-- What stands behind the noughts is the number's form. -/
theorem trim_fm (l : List UInt8) : Lib.trimLeftB l 0 = fm (bv l) := by
  have h := trim_lead l
  rw [← h.2, fm_bv _ h.1]

theorem fm_lead (v : Nat) : Lead (fm v) := by
  have h := trim_lead (fm v)
  have e := trim_fm (fm v)
  rw [bv_fm] at e
  rw [← e]; exact h.1

theorem fm_inj {a b : Nat} (h : fm a = fm b) : a = b := by rw [← bv_fm a, h, bv_fm]

/-- The n bytes of v, the highest first. -/
def pb (v n : Nat) : List UInt8 := (List.range n).map fun t => UInt8.ofNat (Dg.dg 256 v (n - 1 - t))

theorem pb_length (v n : Nat) : (pb v n).length = n := by simp [pb]
theorem pb_succ (v n : Nat) : pb v (n + 1) = UInt8.ofNat (Dg.dg 256 v n) :: pb v n := by
  unfold pb
  rw [List.range_succ_eq_map, List.map_cons, List.map_map]
  congr 1
  apply List.map_congr_left
  intro t _
  show UInt8.ofNat (Dg.dg 256 v (n + 1 - 1 - (t + 1))) = _
  congr 2; omega
theorem bv_pb (v : Nat) : ∀ n, bv (pb v n) = v % 256 ^ n
  | 0 => by simp [pb, bv_nil, Nat.mod_one]
  | n + 1 => by
    rw [pb_succ, bv_cons, pb_length, bv_pb v n, Dg.mod_succ, toNat_ofNat8 _ (Dg.dg_lt (by omega) _ _), Nat.mul_comm]
    omega

/-- The first 4 i bytes of 4 n. -/
def pre (v n i : Nat) : List UInt8 := (List.range (4 * i)).map fun t => UInt8.ofNat (Dg.dg 256 v (4 * n - 1 - t))
theorem pre_zero (v n : Nat) : pre v n 0 = [] := rfl
theorem pre_all (v n : Nat) : pre v n n = pb v (4 * n) := rfl
theorem pre_length (v n i : Nat) : (pre v n i).length = 4 * i := by simp [pre]

theorem dg_limb (v m r : Nat) (hr : r < 4) : Dg.dg LB v m / 256 ^ r % 256 = Dg.dg 256 v (4 * m + r) := by
  unfold Dg.dg
  have e1 : LB ^ m = 256 ^ (4 * m) := by rw [show LB = 256 ^ 4 from rfl, ← Nat.pow_mul]
  rw [e1, Nat.pow_add, ← Nat.div_div_eq_div_mul]
  generalize v / 256 ^ (4 * m) = y
  have e2 : LB = 256 ^ r * (256 * 256 ^ (3 - r)) := by
    rw [Nat.mul_comm 256, ← Nat.pow_succ, ← Nat.pow_add, show r + (3 - r + 1) = 4 from by omega]; rfl
  rw [e2, Nat.mod_mul_right_div_self, Nat.mod_mul_right_mod]

theorem pre_succ (v n i : Nat) (h : i < n) (x : Nat) (hx : x = Dg.dg LB v (n - 1 - i)) :
    pre v n (i + 1) = pre v n i ++ [UInt8.ofNat (x / 16777216 % 256), UInt8.ofNat (x / 65536 % 256), UInt8.ofNat (x / 256 % 256), UInt8.ofNat (x % 256)] := by
  unfold pre
  have e : 4 * (i + 1) = 4 * i + 1 + 1 + 1 + 1 := by omega
  rw [e, List.range_succ, List.range_succ, List.range_succ, List.range_succ]
  simp only [List.map_append, List.map_cons, List.map_nil, List.append_assoc, List.cons_append, List.nil_append]
  have h3 := dg_limb v (n - 1 - i) 3 (by omega)
  have h2 := dg_limb v (n - 1 - i) 2 (by omega)
  have h1 := dg_limb v (n - 1 - i) 1 (by omega)
  have h0 := dg_limb v (n - 1 - i) 0 (by omega)
  rw [← hx] at h0 h1 h2 h3
  rw [show 4 * n - 1 - 4 * i = 4 * (n - 1 - i) + 3 from by omega, show 4 * n - 1 - (4 * i + 1) = 4 * (n - 1 - i) + 2 from by omega, show 4 * n - 1 - (4 * i + 1 + 1) = 4 * (n - 1 - i) + 1 from by omega, show 4 * n - 1 - (4 * i + 1 + 1 + 1) = 4 * (n - 1 - i) + 0 from by omega, ← h3, ← h2, ← h1, ← h0]
  simp

end Go.Proofs.YtjkjlbchbbpmaaaGreatDoor
/- nat.Trim and limbs.form: the walks. -/
namespace Go.Proofs.YtjkjlbchbbpmaaaGreatDoor
open Go.RowKit

theorem Trim_any (s : ByteArray) (w : World) :
    Calls Tryz.prog 44 #[.string s] w fun e w' => e = .returned (.string ⟨(fm (bv s.data.toList)).toArray⟩) ∧ w = w' := by
  have ht := trim_fm s.data.toList
  have HT := Lib.hid ht; clear ht
  go_enter Tryz.func44, Tryz.ntmps44
  go_wp2_with (go_at_call 78; refine (Tryz.strings_TrimLeft_one s 0 (by decide) _).mono ?_; rintro e w' ⟨rfl, rfl⟩; rw [HT.out])
  go_ret
  exact ⟨rfl, rfl⟩

theorem info8 : (Tryz.prog.info? 5).map (fun i => (i.zero, i.size, i.bytes)) = some (some (.int .u8 0), 1, 1) := by kernel_rfl

/-- The value is a slice of the call's own (blocks from B on) that holds these bytes. -/
def Buf (w : World) (B : Nat) (v : Value) (l : List UInt8) : Prop :=
  w.ownsRow B 5 1 v l.length (l.map fun c => Value.int .u8 (c.toNat : Nat))

theorem Buf.own {w : World} {B : Nat} {v : Value} {l : List UInt8} (h : Buf w B v l) : w.ownsRow B 5 1 v l.length (l.map fun c => Value.int .u8 (c.toNat : Nat)) := h

theorem byte_cells (l : List UInt8) : ∀ u ∈ (l.map fun c => Value.int .u8 (c.toNat : Nat)), u.oneCell' = true := by
  intro u hu
  obtain ⟨c, _, rfl⟩ := List.mem_map.1 hu
  rfl

theorem Buf.below {w w' : World} {B : Nat} {v : Value} {l : List UInt8} (h : Buf w B v l) (hb : Below w.heap.size w w') : Buf w' B v l := by
  obtain ⟨h1, h2⟩ := h
  refine ⟨h1, ?_⟩
  rcases h2 with h2 | ⟨g, cap, cur, hv, hg, hh, r⟩
  · exact Or.inl h2
  · exact Or.inr ⟨g, cap, cur, hv, hg, by rw [hb.block g (by have := (Array.getElem?_eq_some_iff.1 hh).1; omega)]; exact hh, r⟩

/-- 'append(b, ..)' of some bytes. -/
theorem wpList_append_buf (w : World) {ops : Array Oper} {rest : List Oper} {o : Oper} {a : Act} {Q : Exit → Act → World → Prop} (hgd : o.guard = none) (s x : Operand) (t : TypeId)
    (ho : o.op = .call { callee := .builtin .append, args := #[s, x], argTypes := #[t, t] }) (ht : Tryz.prog.underlying t = some (.slice 5)) (B : Nat) (v : Value) (l : List UInt8) (hs : a.eval s = v) (hb : Buf w B v l)
    (ad : Addr) (m c : Nat) (cs : List UInt8) (hx : a.eval x = .slice (some ad) m c) (hl : cs.length = m) (hnews : ∀ j u, (cs.map fun c => Value.int .u8 (c.toNat : Nat))[j]? = some u → w.cell? (ad.add j) = some u)
    (hlen : l.length + m ≤ 140737488355328) (hbase : B ≤ w.heap.size) (w0 : World) (hw0 : Below B w0 w)
    (h : ∀ v' w', Buf w' B v' (l ++ cs) → Below B w0 w' → (v' = .slice none 0 0 ↔ v = .slice none 0 0 ∧ m = 0) → wpList Tryz.prog ops Q rest (a.put o.dst v') w') : wpList Tryz.prog ops Q (o :: rest) a w := by
  obtain ⟨i, hi, hz0, hz1, hz2⟩ := info_parts info8
  refine wpList_append_own w hgd s x t ho B 5 i (.int .u8 0) 1 1 ht hi hz0 hz1 hz2 rfl (by decide) v l.length _ hs hb ad m c (cs.map fun c => Value.int .u8 (c.toNat : Nat)) hx (by simp [hl]) hnews (byte_cells cs) (by unfold maxLen; omega) (by omega) hbase ?_
  intro v' w' hown hgr hnil
  refine h v' w' ?_ (hw0.grown hgr hbase ?_) hnil
  · unfold Buf
    rw [List.length_append, List.map_append, hl]; exact hown
  · intro k hk
    exact (hb.lt k hk).1

/-- What a new block holds. -/
theorem new_cells (w : World) (arr : Array Value) (e : TypeId) : ∀ (j : Nat) (u : Value), arr.toList[j]? = some u → (w.alloc (.cells arr e)).cell? ((⟨w.heap.size, 0, none⟩ : Addr).add j) = some u := by
  intro j u hj
  rw [Addr.add_lit, Nat.zero_add]
  have hh : (w.alloc (.cells arr e)).heap[w.heap.size]? = some (.cells arr e (0, 0)) := heap_alloc_new w _
  simp only [World.cell?, hh, Option.isSome_none, Bool.false_eq_true, if_false]
  rw [← Array.getElem?_toList]; exact hj

set_option maxRecDepth 100000 in
/-- 'string(b)' of such a slice. -/
theorem run_string_buf {w : World} {B : Nat} {v : Value} {l : List UInt8} (h : Buf w B v l) :
    (convert 46 9 v).run Tryz.prog w = .ok (.string ⟨l.toArray⟩) w := by
  have hown := h.own
  rcases h.2 with ⟨rfl, h0⟩ | ⟨g, cap, cur, rfl, _⟩
  · have : l = [] := List.eq_nil_of_length_eq_zero h0
    subst this
    exact run_convert_bytes_nil _ _ _ Tryz.underlying46 Tryz.underlying5 0 0 _ Tryz.underlying9
  · have hr := run_convert_bytes_arg w 46 5 Tryz.underlying46 Tryz.underlying5 g 0 l.length cap (l.map fun c => ((c.toNat : Nat) : Int)) (by simp) (fun i hi => by
      rw [Nat.zero_add, hown.cellAt i (by omega), List.getElem?_map, List.getElem?_eq_getElem hi]
      simp [List.getD, List.getElem?_eq_getElem hi]) 9 Tryz.underlying9
    rw [hr]
    congr 2
    unfold strOfNums
    congr 1
    rw [List.map_map]
    congr 1
    refine (List.map_congr_left fun c _ => ?_).trans (List.map_id l)
    simp

set_option maxRecDepth 100000 in
set_option maxHeartbeats 800000 in
theorem form_any (ao : Option Addr) (n c v : Nat) (w : World) (ha : Num w ao n c v) (hn : n ≤ 10000000) :
    Calls Tryz.prog 43 #[.slice ao n c] w fun e w' => e = .returned (.string ⟨(fm v).toArray⟩) ∧ Below w.heap.size w w' := by
  have hv : v < LB ^ n := ha.lt
  have HV := Lib.hid hv; clear hv
  obtain ⟨i8, hi8, hz0, hz1, hz2⟩ := info_parts info8
  go_enter Tryz.func43, Tryz.ntmps43
  go_wp2_with (refine wpList_make_own _ rfl _ (.tmp 8) _ rfl w.heap.size 5 i8 (.int .u8 0) 1 Tryz.underlying46 hi8 hz0 hz1 .i64 .i64 _ (4 * n) rfl rfl (by omega) (by rw [hz2]; omega) (by unfold maxLen; omega) (Nat.le_refl _) ?_; intro w1 hown1 hgr1)
  have hb1 : Below w.heap.size w w1 := (Below.refl _ _).grown hgr1 (Nat.le_refl _) (by simp)
  have hbuf1 : Buf w1 w.heap.size (.slice (some ⟨w.heap.size, 0, none⟩) 0 (4 * n)) (pre v n 0) := hown1
  have hs1 : w.heap.size ≤ w1.heap.size := hb1.size
  clear hown1 hgr1
  go_loopw [3, 12] (fun bv iv wr => ∃ k : Nat, k ≤ n ∧ iv = .int .i64 k ∧ Buf wr w.heap.size bv (pre v n k) ∧ Below w.heap.size w wr) (fun _ iv _ => n - (intOf iv).toNat)
  case atStart => exact ⟨0, Nat.zero_le _, rfl, hbuf1, hb1⟩
  case round =>
    obtain ⟨i, hi, rfl, hbuf, hbel⟩ := hrel
    clear hbuf1
    have hsz := hbel.size
    by_cases hin : i < n
    · have hca : wr.cell? ⟨blk ao, off ao + (n - 1 - i), none⟩ = some (.int .u32 (Dg.dg LB v (n - 1 - i) : Nat)) := (ha.rd.below hbel (Nat.le_refl _)).cell _ (by omega)
      have hsa := ha.rd.sh
      obtain ⟨x, hx⟩ : ∃ x, x = Dg.dg LB v (n - 1 - i) := ⟨_, rfl⟩
      rw [← hx] at hca
      have hxl : x < 4294967296 := by rw [hx]; exact Dg.dg_lt LBpos _ _
      have HX := Lib.hid hx; clear hx
      obtain ⟨cs, hcs⟩ : ∃ cs, cs = [UInt8.ofNat (x / 16777216 % 256), UInt8.ofNat (x / 65536 % 256), UInt8.ofNat (x / 256 % 256), UInt8.ofNat (x % 256)] := ⟨_, rfl⟩
      have hcl : cs.length = 4 := by rw [hcs]; rfl
      have hcv : (cs.map fun c => Value.int .u8 (c.toNat : Nat)) = [Value.int .u8 ((x : Int) / 16777216), Value.int .u8 ((x : Int) / 65536 % 256), Value.int .u8 ((x : Int) / 256 % 256), Value.int .u8 ((x : Int) % 256)] := by
        rw [hcs]
        simp only [List.map_cons, List.map_nil]
        rw [toNat_ofNat8 _ (Nat.mod_lt _ (by omega)), toNat_ofNat8 _ (Nat.mod_lt _ (by omega)), toNat_ofNat8 _ (Nat.mod_lt _ (by omega)), toNat_ofNat8 _ (Nat.mod_lt _ (by omega))]
        have e : x / 16777216 % 256 = x / 16777216 := by omega
        rw [e]
        simp
      have hps : pre v n (i + 1) = pre v n i ++ cs := by rw [hcs]; exact pre_succ v n i hin x HX.out
      have hpl : (pre v n i).length + 4 ≤ 140737488355328 := by rw [pre_length]; omega
      have HCS := Lib.hid hcs; have HCV := Lib.hid hcv; have HPS := Lib.hid hps; have HPL := Lib.hid hpl; have HCL := Lib.hid hcl
      clear hcs hcv hps hpl hcl
      go_wp2_with (at_builtin; refine wpList_append_buf _ rfl (.tmp 23) (.tmp 35) _ rfl Tryz.underlying46 w.heap.size _ (pre v n i) rfl (hbuf.below ((Below.refl _ _).alloc (Nat.le_refl _) _)) ⟨wr.heap.size, 0, none⟩ 4 4 cs rfl HCL.out ?h1 HPL.out (by simp; omega) w (hbel.alloc (by omega) _) ?_; rotate_left; intro v' w2 hbuf2 hbel2 _)
      case h1 => rw [HCV.out]; exact new_cells _ _ _
      go_roundw
      case rel => exact ⟨i + 1, by omega, by go_num, by rw [HPS.out]; exact hbuf2, hbel2⟩
      case measure => simp [intOf]; omega
    · obtain rfl : i = n := by omega
      have hcv := run_string_buf hbuf
      have hfin : fm (bv (⟨(pre v i i).toArray⟩ : ByteArray).data.toList) = fm v := by
        have e : (⟨(pre v i i).toArray⟩ : ByteArray).data.toList = pre v i i := rfl
        rw [e, pre_all, bv_pb, Nat.mod_eq_of_lt]
        have h := HV.out
        rwa [show LB = 256 ^ 4 from rfl, ← Nat.pow_mul] at h
      have HFIN := Lib.hid hfin; clear hfin
      go_wp2_with (go_at_call 44; refine (Trim_any _ _).mono ?_; rintro e w' ⟨rfl, rfl⟩; rw [HFIN.out])
      go_ret
      exact ⟨rfl, hbel⟩
end Go.Proofs.YtjkjlbchbbpmaaaGreatDoor
