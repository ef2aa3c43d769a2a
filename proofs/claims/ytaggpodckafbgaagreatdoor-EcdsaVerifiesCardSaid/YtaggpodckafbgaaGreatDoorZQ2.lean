/- QLeft0 QLeft QInv0, in one text. -/
import Derived.Test.YtaggpodckafbgaaGreatDoorZD
import Derived.Test.YtaggpodckafbgaaGreatDoorZQ1
/- What is left of a division: plain. -/
namespace Go.Proofs.YtaggpodckafbgaaGreatDoor
namespace Lf
theorem dg_push {B R c j : Nat} (hc : c < B) : Dg.dg B (R * B + c) j = if j = 0 then c else Dg.dg B R (j - 1) := by
  have hB : 0 < B := by omega
  unfold Dg.dg
  by_cases h : j = 0
  · rw [if_pos h, h, Nat.pow_zero, Nat.div_one, Nat.mul_comm, Nat.mul_add_mod, Nat.mod_eq_of_lt hc]
  · rw [if_neg h]
    obtain ⟨i, rfl⟩ : ∃ i, j = i + 1 := ⟨j - 1, by omega⟩
    rw [Nat.pow_succ, Nat.mul_comm (B ^ i), ← Nat.div_div_eq_div_mul, Nat.mul_comm R, Nat.mul_add_div hB, Nat.div_eq_of_lt hc, Nat.add_zero, Nat.add_sub_cancel]
theorem push_lt {B R m c n : Nat} (hR : R < m) (hm : m < B ^ n) (hc : c < B) : R * B + c < B ^ (n + 1) := by
  rw [Nat.pow_succ]
  have h : (R + 1) * B ≤ B ^ n * B := Nat.mul_le_mul_right B (by omega)
  have e : (R + 1) * B = R * B + B := by rw [Nat.add_mul, Nat.one_mul]
  omega
theorem push_mod {B a m k : Nat} : (a / B ^ (k + 1) % m * B + Dg.dg B a k) % m = a / B ^ k % m := by
  have e : a / B ^ k = a / B ^ (k + 1) * B + Dg.dg B a k := by
    unfold Dg.dg
    rw [Nat.pow_succ, ← Nat.div_div_eq_div_mul, Nat.mul_comm]
    exact (Nat.div_add_mod _ _).symm
  rw [e, Nat.add_mod, Nat.mul_mod, Nat.mod_mod, ← Nat.mul_mod, ← Nat.add_mod]
structure Tk (B V m t k b D : Nat) : Prop where
  lt : D < B ^ k
  eq : t * (m % B ^ k) + D = V % B ^ k + b * B ^ k
theorem Tk.zero {B V m t : Nat} : Tk B V m t 0 0 0 := ⟨by simp, by simp [Nat.mod_one]⟩
theorem Tk.step {B V m t k b D y b' : Nat} (_hB : 0 < B) (h : Tk B V m t k b D) (hy : y < B) (he : b + t * Dg.dg B m k + y = Dg.dg B V k + B * b') : Tk B V m t (k + 1) b' (D + y * B ^ k) := by
  refine ⟨?_, ?_⟩
  · have h1 := h.lt
    have h2 : (y + 1) * B ^ k ≤ B * B ^ k := Nat.mul_le_mul_right _ (by omega)
    rw [Nat.add_mul, Nat.one_mul] at h2
    rw [Nat.pow_succ, Nat.mul_comm (B ^ k)]; omega
  · rw [Dg.mod_succ, Dg.mod_succ, Nat.mul_add, Nat.pow_succ]
    have h1 := h.eq
    have h2 : B ^ k * (b + t * Dg.dg B m k + y) = B ^ k * (Dg.dg B V k + B * b') := by rw [he]
    have e1 : t * (B ^ k * Dg.dg B m k) = B ^ k * (t * Dg.dg B m k) := Nat.mul_left_comm _ _ _
    have e2 : y * B ^ k = B ^ k * y := Nat.mul_comm _ _
    have e3 : b' * (B ^ k * B) = B ^ k * (B * b') := by rw [Nat.mul_comm b', Nat.mul_assoc]
    have e4 : b * B ^ k = B ^ k * b := Nat.mul_comm _ _
    rw [Nat.mul_add, Nat.mul_add, Nat.mul_add] at h2
    omega
theorem Tk.dg {B V m t k b D y : Nat} (hB : 0 < B) (h : Tk B V m t k b D) (hy : y < B) (j : Nat) : Dg.dg B (D + y * B ^ k) j = if j < k then Dg.dg B D j else if j = k then y else 0 := by
  have hp : 0 < B ^ k := Nat.pow_pos hB
  by_cases hj : j < k
  · rw [if_pos hj, ← Dg.dg_mod (v := D + y * B ^ k) hj, Nat.mul_comm y, Nat.add_mul_mod_self_left, Dg.dg_mod hj]
  · rw [if_neg hj]
    by_cases e : j = k
    · rw [if_pos e, e]
      unfold Dg.dg
      rw [Nat.mul_comm y, Nat.add_mul_div_left _ _ hp, Nat.div_eq_of_lt h.lt, Nat.zero_add, Nat.mod_eq_of_lt hy]
    · rw [if_neg e]
      have h3 : D + y * B ^ k < B ^ (k + 1) := by
        have h1 := h.lt
        have h2 : (y + 1) * B ^ k ≤ B * B ^ k := Nat.mul_le_mul_right _ (by omega)
        rw [Nat.add_mul, Nat.one_mul] at h2
        rw [Nat.pow_succ, Nat.mul_comm (B ^ k)]; omega
      exact Dg.dg_of_lt_le hB h3 (by omega)
theorem Tk.last {B V m t k b D : Nat} (h : Tk B V m t k b D) (hV : V < B ^ k) (hm : m < B ^ k) (ht : t * m ≤ V) : D = V - t * m := by
  have h1 := h.eq
  have h2 := h.lt
  rw [Nat.mod_eq_of_lt hV, Nat.mod_eq_of_lt hm] at h1
  have hb : b = 0 := by
    rcases Nat.eq_zero_or_pos b with h0 | h0
    · exact h0
    · have : B ^ k ≤ b * B ^ k := Nat.le_mul_of_pos_left _ h0
      omega
  subst hb
  omega
theorem sub_mod' {V m t : Nat} (h : t * m ≤ V) : (V - t * m) % m = V % m := by
  have e : V = V - t * m + t * m := by omega
  conv => rhs; rw [e]
  rw [Nat.add_mul_mod_self_right]
theorem top_le {B V m n t : Nat} (ht : t = Dg.dg B V n) (hV : V < B ^ (n + 1)) (hm : m < B ^ n) : t * m ≤ V := by
  have e : V / B ^ n < B := by
    rw [Nat.div_lt_iff_lt_mul (Nat.pos_of_ne_zero (fun h => by rw [h] at hm; omega)), Nat.mul_comm, ← Nat.pow_succ]; exact hV
  have ht' : t = V / B ^ n := by rw [ht]; exact Nat.mod_eq_of_lt e
  rw [ht']
  exact Nat.le_trans (Nat.mul_le_mul_left _ (Nat.le_of_lt hm)) (Nat.div_mul_le_self _ _)
theorem top_zero {B V n : Nat} (hB : 0 < B) (hV : V < B ^ (n + 1)) (ht : Dg.dg B V n = 0) : V < B ^ n := by
  have e := Dg.mod_succ B V n
  rw [Nat.mod_eq_of_lt hV, ht, Nat.mul_zero, Nat.add_zero] at e
  rw [e]; exact Nat.mod_lt _ (Nat.pow_pos hB)
end Lf
end Go.Proofs.YtaggpodckafbgaaGreatDoor
/- The reference's Left (layer 5): the walk. -/
namespace Go.Proofs.YtaggpodckafbgaaGreatDoor
open Go.RowKit
def rowQ (w : World) (g n : Nat) : Nat := Dg.vf DB (fun j => match w.cell? ⟨g, j, none⟩ with | some v => (intOf v).toNat | none => 0) n
theorem rowQ_own {w : World} {e g n v : Nat} (h : Own w .u32 e g n (Dg.dg DB v)) (hv : v < DB ^ n) : rowQ w g n = v := by
  unfold rowQ
  rw [← Dg.vf_dg_of_lt hv]
  refine Dg.vf_congr fun j hj => ?_
  rw [h.cell j hj]
  simp [intOf]
theorem left_x {r take x : Nat} (hx : x = r + 1099511627776 - take) (hr : r < 65536) (ht : take ≤ 4294901761) : take + x % 65536 = r + 65536 * (16777216 - x / 65536) ∧ 16777216 - x / 65536 ≤ 65536 ∧ x / 65536 ≤ 16777216 := by
  omega
set_option maxRecDepth 100000 in
set_option maxHeartbeats 6400000 in
theorem qleft_any (ao mo : Option Addr) (na c n d a m : Nat) (w : World) (ha : QN w ao na c a) (hm : QN w mo n d m) (hm0 : 0 < m) (hna : na ≤ 10000000) (hn : n ≤ 10000000) :
    Calls Tryz.prog 56 #[.slice ao na c, .slice mo n d] w (RetQN w (a % m)) := by
  have hml : m < DB ^ n := hm.lt
  have hal : a < DB ^ na := ha.lt
  have HM0 := Lib.hid hm0; have HML := Lib.hid hml; have HAL := Lib.hid hal
  clear hm0 hml hal
  go_enter Tryz.func56, Tryz.ntmps56
  go_wp2_with (refine wpList_make_row _ rfl (.tmp 17) (.tmp 17) _ rfl 64 .u32 4 Tryz.underlying29 qinfo32 .i64 .i64 _ _ (n + 1) rfl rfl (by omega) (by omega) (by omega) (by omega) ?_; intro g w1 hg hown1 hb1)
  have hown2 : Own w1 .u32 64 g (n + 1) (Dg.dg DB (a / DB ^ na % m)) := hown1.congr fun j _ => by rw [Nat.div_eq_of_lt HAL.out, Nat.zero_mod, Dg.dg_zero]
  clear hown1
  go_loopw [7] (fun i wr => ∃ (x : Int) (k : Nat), x = (k : Int) - 1 ∧ k ≤ na ∧ i = .int .i64 x ∧ Own wr .u32 64 g (n + 1) (Dg.dg DB (a / DB ^ k % m)) ∧ Below w.heap.size w wr) (fun i _ => (intOf i + 1).toNat)
  case atStart => exact ⟨_, na, rfl, Nat.le_refl _, rfl, hown2, hb1⟩
  case round =>
    obtain ⟨x, k, hxk, hk, rfl, hown, hbel⟩ := hrel
    clear hown2 hb1
    by_cases h0 : x < 0
    · obtain rfl : k = 0 := by omega
      rw [Nat.pow_zero, Nat.div_one] at hown
      have hlt : a % m < DB ^ (n + 1) := Nat.lt_trans (Nat.mod_lt _ HM0.out) (Nat.lt_of_lt_of_le HML.out (Nat.pow_le_pow_right DBpos (by omega)))
      have hrd := hown.rd
      have HLT := Lib.hid hlt; clear hlt hxk
      go_wp2_with (go_at_call 74; refine (qtrim_num _ _ _ _ _ hrd HLT.out).mono ?_; rintro e w' ⟨k, rfl, hnum, rfl⟩)
      go_ret
      exact ⟨_, _, _, rfl, hnum, hbel⟩
    · obtain ⟨i, rfl⟩ : ∃ i, k = i + 1 := ⟨k - 1, by omega⟩
      obtain rfl : x = (i : Int) := by omega
      clear h0 hxk
      obtain ⟨R, hR⟩ : ∃ R, R = a / DB ^ (i + 1) % m := ⟨_, rfl⟩
      rw [← hR] at hown
      have hRm : R < m := by rw [hR]; exact Nat.mod_lt _ HM0.out
      obtain ⟨ai, hai⟩ : ∃ ai, ai = Dg.dg DB a i := ⟨_, rfl⟩
      have hail : ai < 65536 := by rw [hai]; exact Dg.dg_lt DBpos _ _
      have HV0 := Lib.hid (show (R * DB + ai) % m = a / DB ^ i % m by rw [hR, hai]; exact Lf.push_mod)
      have HV1 := Lib.hid (show R * DB + ai < DB ^ (n + 1) from Lf.push_lt hRm HML.out hail)
      have HAI := Lib.hid hai; have HRM := Lib.hid hRm
      clear hR hai hRm
      go_wp2_with fail
      obtain ⟨wo, rfl⟩ : ∃ wo : World, wo = wr := ⟨_, rfl⟩
      go_loopw [8] (fun iv wr => ∃ q : Nat, q ≤ n ∧ iv = .int .i64 q ∧ Own wr .u32 64 g (n + 1) (fun j => if q < j then Dg.dg DB R (j - 1) else Dg.dg DB R j) ∧ Below w.heap.size w wr) (fun iv _ => (intOf iv).toNat)
      case atStart => exact ⟨n, Nat.le_refl _, rfl, hown.congr fun j hj => by rw [if_neg (by omega)], hbel⟩
      case round =>
        obtain ⟨q, hq, rfl, hown, hbel⟩ := hrel
        by_cases hq0 : 0 < q
        · obtain ⟨p, rfl⟩ : ∃ p, q = p + 1 := ⟨q - 1, by omega⟩
          have hco : wr.cell? ⟨g, p, none⟩ = some (.int .u32 (Dg.dg DB R p : Nat)) := by have h := hown.cell p (by omega); rw [if_neg (by omega)] at h; exact h
          obtain ⟨z, hz⟩ : ∃ z, z = Dg.dg DB R p := ⟨_, rfl⟩
          rw [← hz] at hco
          have HZ := Lib.hid hz; clear hz
          have hfr := hown.frozen (p + 1)
          have hfc : wr.cell? ⟨g, p + 1, none⟩ = some (.int .u32 (Dg.dg DB R (p + 1) : Nat)) := by have h := hown.cell (p + 1) (by omega); rw [if_neg (by omega)] at h; exact h
          go_wp2_with fail
          go_roundw
          case rel => exact ⟨p, by omega, by go_num, own_set_int hown (s := z) rfl (by rw [if_pos (by omega), Nat.add_sub_cancel]; exact HZ.out) (fun j hj hne => by
            by_cases h1 : p + 1 < j
            · rw [if_pos h1, if_pos (by omega)]
            · rw [if_neg h1, if_neg (by omega)]), hbel.setCell hg _⟩
          case measure => simp [intOf]
        · obtain rfl : q = 0 := by omega
          have hca : wr.cell? ⟨blk ao, off ao + i, none⟩ = some (.int .u32 (ai : Nat)) := by rw [HAI.out]; exact (ha.rd.below hbel (Nat.le_refl _)).cell i (by omega)
          have hsa := ha.rd.sh
          have hfr := hown.frozen 0
          have hfc : wr.cell? ⟨g, 0, none⟩ = some (.int .u32 (Dg.dg DB R 0 : Nat)) := by have h := hown.cell 0 (by omega); rw [if_neg (by omega)] at h; exact h
          go_wp2_with fail
          have hown3 : Own (wr.setCell ⟨g, 0, none⟩ (.int .u32 (ai : Nat))) .u32 64 g (n + 1) (Dg.dg DB (R * DB + ai)) := own_set_int hown (s := ai) rfl (by rw [Lf.dg_push (B := DB) hail, if_pos rfl]) (fun j hj hne => by rw [Lf.dg_push (B := DB) hail, if_neg hne, if_pos (by omega)])
          have hbel3 : Below w.heap.size w (wr.setCell ⟨g, 0, none⟩ (.int .u32 (ai : Nat))) := hbel.setCell hg _
          obtain ⟨w3, hw3⟩ : ∃ w3, w3 = wr.setCell ⟨g, 0, none⟩ (.int .u32 (ai : Nat)) := ⟨_, rfl⟩
          rw [← hw3] at hown3 hbel3 ⊢
          clear hw3 hca hfr hfc hown hbel
          go_loopw [] (fun wr => ∃ V : Nat, V < DB ^ (n + 1) ∧ Hid (V % m = a / DB ^ i % m) ∧ Own wr .u32 64 g (n + 1) (Dg.dg DB V) ∧ Below w.heap.size w wr) (fun wr => rowQ wr g (n + 1))
          case atStart => exact ⟨_, HV1.out, HV0, hown3, hbel3⟩
          case round =>
            obtain ⟨V, hV, hVm, hown, hbel⟩ := hrel
            have hmeasV : rowQ wr g (n + 1) = V := rowQ_own hown hV
            obtain ⟨top, htop⟩ : ∃ top, top = Dg.dg DB V n := ⟨_, rfl⟩
            have hct : wr.cell? ⟨g, n, none⟩ = some (.int .u32 (top : Nat)) := by rw [htop]; exact hown.cell n (by omega)
            have htl : top < 65536 := by rw [htop]; exact Dg.dg_lt DBpos _ _
            have hle := Lf.top_le htop hV HML.out
            have hz : top = 0 → V < DB ^ n := fun h => Lf.top_zero DBpos hV (by rw [← htop]; exact h)
            have HLE := Lib.hid hle; have HZ := Lib.hid hz; have HVM := Lib.hid hmeasV
            have hV := Lib.hid hV
            clear htop hle hz hmeasV
            by_cases h0 : 0 < top
            · obtain ⟨t, ht⟩ : ∃ t, t = top := ⟨_, rfl⟩
              subst ht
              have HTM := Lib.hid HLE.out
              have HTP := Lib.hid (Nat.mul_pos h0 HM0.out)
              have hb0 : ((t : Int) == 0) = false := by rw [beq_eq_false_iff_ne]; omega
              go_wp2_with fail
              obtain ⟨wt, hwt⟩ : ∃ wt : World, wt = wr := ⟨_, rfl⟩
              rw [← hwt]
              have hownT : Own wt .u32 64 g (n + 1) (Dg.dg DB V) := by rw [hwt]; exact hown
              have hbelT : Below w.heap.size w wt := by rw [hwt]; exact hbel
              clear hwt
              go_loopw [10, 11] (fun bv iv wr => ∃ k b D : Nat, k ≤ n + 1 ∧ iv = .int .i64 k ∧ bv = .int .u64 b ∧ b ≤ 65536 ∧ Lf.Tk DB V m t k b D ∧ Own wr .u32 64 g (n + 1) (fun j => if j < k then Dg.dg DB D j else Dg.dg DB V j) ∧ Below w.heap.size w wr) (fun _ iv _ => n + 1 - (intOf iv).toNat)
              case atStart => exact ⟨0, 0, 0, Nat.zero_le _, rfl, rfl, Nat.zero_le _, Lf.Tk.zero, hownT.congr fun j hj => by rw [if_neg (by omega)], hbelT⟩
              case round =>
                obtain ⟨k, b, D, hk, rfl, rfl, hb, hT, hown, hbel⟩ := hrel
                by_cases hkn : k ≤ n
                · have hcr : wr.cell? ⟨g, k, none⟩ = some (.int .u32 (Dg.dg DB V k : Nat)) := by have h := hown.cell k (by omega); rw [if_neg (by omega)] at h; exact h
                  obtain ⟨r, hr⟩ : ∃ r, r = Dg.dg DB V k := ⟨_, rfl⟩
                  rw [← hr] at hcr
                  have hrl : r < 65536 := by rw [hr]; exact Dg.dg_lt DBpos _ _
                  have hfr := hown.frozen k
                  obtain ⟨mk, hmk⟩ : ∃ mk, mk = Dg.dg DB m k := ⟨_, rfl⟩
                  have hmkl : mk < 65536 := by rw [hmk]; exact Dg.dg_lt DBpos _ _
                  have hHR := Lib.hid hr; have HMK := Lib.hid hmk
                  have hp1 : t * mk ≤ 65535 * 65535 := Nat.mul_le_mul (by omega) (by omega)
                  have hp2 : ((t * mk : Nat) : Int) = (t : Int) * (mk : Int) := Int.natCast_mul _ _
                  have hp3 : (t : Int) * (mk : Int) ≤ 4294836225 := by omega
                  have hp4 : 0 ≤ (t : Int) * (mk : Int) := by omega
                  obtain ⟨X, hX⟩ : ∃ X, X = r + 1099511627776 - (b + t * mk) := ⟨_, rfl⟩
                  have hXl : X < 18446744073709551616 := by omega
                  have hXi : ((r : Int) + 1099511627776 - ((b : Int) + (t : Int) * (mk : Int))) = (X : Int) := by omega
                  have LX := left_x hX hrl (by omega)
                  have HT' : Lf.Tk DB V m t (k + 1) (16777216 - X / 65536) (D + X % 65536 * DB ^ k) := hT.step DBpos (by rw [DB_eq]; omega) (by rw [← hmk, ← hr, DB_eq]; exact LX.1)
                  have HLX := Lib.hid LX; have HXI := Lib.hid hXi; have HXX := Lib.hid hX
                  have HROW := Lib.hid (hT.dg (y := X % 65536) DBpos (by rw [DB_eq]; omega))
                  have hp5 : k < n → wr.cell? ⟨blk mo, off mo + k, none⟩ = some (.int .u32 (mk : Nat)) := fun h => by rw [hmk]; exact (hm.rd.below hbel (Nat.le_refl _)).cell k h
                  have hp6 : n ≤ k → mk = 0 := fun h => hmk.trans (Dg.dg_of_lt_le DBpos HML.out h)
                  have HP5 := Lib.hid hp5; have HP6 := Lib.hid hp6
                  have hsm := hm.rd.sh
                  clear hr hmk hp2 hX LX hp5 hp6 hXi
                  by_cases hkn2 : k < n
                  · have hcm := HP5.out hkn2
                    go_wp2_with fail
                    go_roundw
                    case rel => exact ⟨k + 1, 16777216 - X / 65536, _, by omega, by go_num, by congr 1; have := HLX.out; have := HXI.out; omega, HLX.out.2.1, HT', own_set_int hown (s := X % 65536) (by rw [HXI.out]; exact mask64 hXl) (by rw [if_pos (by omega), HROW.out, if_neg (by omega), if_pos rfl]) (fun j hj hne => by
                      by_cases h1 : j < k
                      · rw [if_pos h1, if_pos (by omega), HROW.out, if_pos h1]
                      · rw [if_neg h1, if_neg (by omega)]), hbel.setCell hg _⟩
                    case measure => simp [intOf]; omega
                  · have hmk0 := HP6.out (by omega)
                    have hXi0 : ((r : Int) + 1099511627776 - (b : Int)) = (X : Int) := by rw [← HXI.out, hmk0]; simp
                    have HX0 := Lib.hid hXi0
                    clear hXi0 hmk0 hp3 hp4
                    go_wp2_with fail
                    go_roundw
                    case rel => exact ⟨k + 1, 16777216 - X / 65536, _, by omega, by go_num, by congr 1; have := HLX.out; have := HX0.out; omega, HLX.out.2.1, HT', own_set_int hown (s := X % 65536) (by rw [HX0.out]; exact mask64 hXl) (by rw [if_pos (by omega), HROW.out, if_neg (by omega), if_pos rfl]) (fun j hj hne => by
                      by_cases h1 : j < k
                      · rw [if_pos h1, if_pos (by omega), HROW.out, if_pos h1]
                      · rw [if_neg h1, if_neg (by omega)]), hbel.setCell hg _⟩
                    case measure => simp [intOf]; omega
                · obtain rfl : k = n + 1 := by omega
                  have hD : D = V - t * m := hT.last hV.out (Nat.lt_of_lt_of_le HML.out (Nat.pow_le_pow_right DBpos (by omega))) HTM.out
                  have hown8 : Own wr .u32 64 g (n + 1) (Dg.dg DB D) := hown.congr fun j hj => by rw [if_pos hj]
                  have hDl : D < DB ^ (n + 1) := hT.lt
                  have hmeas : rowQ wr g (n + 1) = D := rowQ_own hown8 hDl
                  have hDV : D < V := by rw [hD]; have := HTM.out; have := HTP.out; omega
                  have hDm : D % m = a / DB ^ i % m := by rw [hD, Lf.sub_mod' HTM.out]; exact hVm.out
                  have HD := Lib.hid hDl; have HME := Lib.hid hmeas; have HDV := Lib.hid hDV; have HDM := Lib.hid hDm
                  clear hD hDl hmeas hDV hDm hown hkn
                  have hkk : ¬ (((n + 1 : Nat) : Int) ≤ (n : Int)) := by omega
                  go_wp2_with fail
                  go_roundw
                  case rel => first | exact ⟨D, HD.out, HDM, hown8, hbel⟩ | exact ⟨D, HD.out, HDM, hown8⟩
                  case measure => rw [HME.out, HVM.out]; exact HDV.out
            · obtain rfl : top = 0 := by omega
              have hVn := HZ.out rfl
              have hrd := hown.rd
              have hC : ∀ w' : World, w' = wr → Calls Tryz.prog 35 #[.slice (some ⟨g, 0, none⟩) n (n + 1), .slice mo n d] w' fun e w2 => e = .returned (.int .i64 (cmpN V m)) ∧ ∃ q, w2 = w'.drewN q := fun w' h => by
                rw [h]; exact qcmp_rd _ _ _ _ _ _ _ _ _ (hrd.take (by omega)) (hm.below hbel (Nat.le_refl _)).rd hVn HML.out
              by_cases hVM : V < m
              · have hc := cmpN_lt hVM
                rw [hc] at hC
                have HC := Lib.hid hC
                have HVV := Lib.hid hVM
                clear hC hc hVn hVM
                go_wp2_with (go_at_call 35; refine (HC.out _ rfl).mono ?_; rintro e w' ⟨rfl, qq, rfl⟩)
                have hfin : V = a / DB ^ i % m := by rw [← hVm.out]; exact (Nat.mod_eq_of_lt HVV.out).symm
                have HFIN := Lib.hid hfin
                clear hfin
                go_roundw
                case rel => exact ⟨_, i, by omega, by omega, rfl, by rw [← HFIN.out]; exact hown.drewN _, below_drawn hbel _⟩
                case measure => simp [intOf]
              · have hcge : 0 ≤ cmpN V m := by
                  rcases Nat.lt_or_ge m V with h | h
                  · rw [cmpN_gt h]; decide
                  · rw [show V = m by omega, cmpN_eq]; decide
                obtain ⟨cc, hcc⟩ : ∃ cc, cc = cmpN V m := ⟨_, rfl⟩
                rw [← hcc] at hC hcge
                have HC := Lib.hid hC
                obtain ⟨t, ht⟩ : ∃ t : Nat, t = 1 := ⟨_, rfl⟩
                have HTM := Lib.hid (show t * m ≤ V by rw [ht]; omega)
                have HTP := Lib.hid (show 0 < t * m by rw [ht, Nat.one_mul]; exact HM0.out)
                have htl : t < 65536 := by omega
                have HT1 := Lib.hid ht
                clear hC hcc hVn hVM h0 ht
                have hfr1 : ∀ qq : Nat, (wr.drewN qq).cell? ⟨g, n, none⟩ = some (.int .u32 (0 : Nat)) := fun qq => hct
                go_wp2_with (go_at_call 35; refine (HC.out _ rfl).mono ?_; rintro e w' ⟨rfl, qq, rfl⟩)
                obtain ⟨wt, hwt⟩ : ∃ wt : World, wt = wr.drewN qq := ⟨_, rfl⟩
                rw [← hwt]
                have hownT : Own wt .u32 64 g (n + 1) (Dg.dg DB V) := by rw [hwt]; exact hown.drewN _
                have hbelT : Below w.heap.size w wt := by rw [hwt]; exact below_drawn hbel _
                clear hwt
                go_loopw [10, 11] (fun bv iv wr => ∃ k b D : Nat, k ≤ n + 1 ∧ iv = .int .i64 k ∧ bv = .int .u64 b ∧ b ≤ 65536 ∧ Lf.Tk DB V m t k b D ∧ Own wr .u32 64 g (n + 1) (fun j => if j < k then Dg.dg DB D j else Dg.dg DB V j) ∧ Below w.heap.size w wr) (fun _ iv _ => n + 1 - (intOf iv).toNat)
                case atStart => exact ⟨0, 0, 0, Nat.zero_le _, rfl, rfl, Nat.zero_le _, Lf.Tk.zero, hownT.congr fun j hj => by rw [if_neg (by omega)], hbelT⟩
                case round =>
                  obtain ⟨k, b, D, hk, rfl, rfl, hb, hT, hown, hbel⟩ := hrel
                  by_cases hkn : k ≤ n
                  · have hcr : wr.cell? ⟨g, k, none⟩ = some (.int .u32 (Dg.dg DB V k : Nat)) := by have h := hown.cell k (by omega); rw [if_neg (by omega)] at h; exact h
                    obtain ⟨r, hr⟩ : ∃ r, r = Dg.dg DB V k := ⟨_, rfl⟩
                    rw [← hr] at hcr
                    have hrl : r < 65536 := by rw [hr]; exact Dg.dg_lt DBpos _ _
                    have hfr := hown.frozen k
                    obtain ⟨mk, hmk⟩ : ∃ mk, mk = Dg.dg DB m k := ⟨_, rfl⟩
                    have hmkl : mk < 65536 := by rw [hmk]; exact Dg.dg_lt DBpos _ _
                    have hHR := Lib.hid hr; have HMK := Lib.hid hmk
                    have hp1 : t * mk ≤ 65535 * 65535 := Nat.mul_le_mul (by omega) (by omega)
                    have hp2 : ((t * mk : Nat) : Int) = (t : Int) * (mk : Int) := Int.natCast_mul _ _
                    have hp3 : (t : Int) * (mk : Int) ≤ 4294836225 := by omega
                    have hp4 : 0 ≤ (t : Int) * (mk : Int) := by omega
                    obtain ⟨X, hX⟩ : ∃ X, X = r + 1099511627776 - (b + t * mk) := ⟨_, rfl⟩
                    have hXl : X < 18446744073709551616 := by omega
                    have hXi : ((r : Int) + 1099511627776 - ((b : Int) + (mk : Int))) = (X : Int) := by have ht1 : t * mk = mk := (by rw [HT1.out, Nat.one_mul]); omega
                    have LX := left_x hX hrl (by omega)
                    have HT' : Lf.Tk DB V m t (k + 1) (16777216 - X / 65536) (D + X % 65536 * DB ^ k) := hT.step DBpos (by rw [DB_eq]; omega) (by rw [← hmk, ← hr, DB_eq]; exact LX.1)
                    have HLX := Lib.hid LX; have HXI := Lib.hid hXi; have HXX := Lib.hid hX
                    have HROW := Lib.hid (hT.dg (y := X % 65536) DBpos (by rw [DB_eq]; omega))
                    have hp5 : k < n → wr.cell? ⟨blk mo, off mo + k, none⟩ = some (.int .u32 (mk : Nat)) := fun h => by rw [hmk]; exact (hm.rd.below hbel (Nat.le_refl _)).cell k h
                    have hp6 : n ≤ k → mk = 0 := fun h => hmk.trans (Dg.dg_of_lt_le DBpos HML.out h)
                    have HP5 := Lib.hid hp5; have HP6 := Lib.hid hp6
                    have hsm := hm.rd.sh
                    clear hr hmk hp2 hX LX hp5 hp6 hXi
                    by_cases hkn2 : k < n
                    · have hcm := HP5.out hkn2
                      go_wp2_with fail
                      go_roundw
                      case rel => exact ⟨k + 1, 16777216 - X / 65536, _, by omega, by go_num, by congr 1; have := HLX.out; have := HXI.out; omega, HLX.out.2.1, HT', own_set_int hown (s := X % 65536) (by rw [HXI.out]; exact mask64 hXl) (by rw [if_pos (by omega), HROW.out, if_neg (by omega), if_pos rfl]) (fun j hj hne => by
                        by_cases h1 : j < k
                        · rw [if_pos h1, if_pos (by omega), HROW.out, if_pos h1]
                        · rw [if_neg h1, if_neg (by omega)]), hbel.setCell hg _⟩
                      case measure => simp [intOf]; omega
                    · have hmk0 := HP6.out (by omega)
                      have hXi0 : ((r : Int) + 1099511627776 - (b : Int)) = (X : Int) := by rw [← HXI.out, hmk0]; simp
                      have HX0 := Lib.hid hXi0
                      clear hXi0 hmk0 hp3 hp4
                      go_wp2_with fail
                      go_roundw
                      case rel => exact ⟨k + 1, 16777216 - X / 65536, _, by omega, by go_num, by congr 1; have := HLX.out; have := HX0.out; omega, HLX.out.2.1, HT', own_set_int hown (s := X % 65536) (by rw [HX0.out]; exact mask64 hXl) (by rw [if_pos (by omega), HROW.out, if_neg (by omega), if_pos rfl]) (fun j hj hne => by
                        by_cases h1 : j < k
                        · rw [if_pos h1, if_pos (by omega), HROW.out, if_pos h1]
                        · rw [if_neg h1, if_neg (by omega)]), hbel.setCell hg _⟩
                      case measure => simp [intOf]; omega
                  · obtain rfl : k = n + 1 := by omega
                    have hD : D = V - t * m := hT.last hV.out (Nat.lt_of_lt_of_le HML.out (Nat.pow_le_pow_right DBpos (by omega))) HTM.out
                    have hown8 : Own wr .u32 64 g (n + 1) (Dg.dg DB D) := hown.congr fun j hj => by rw [if_pos hj]
                    have hDl : D < DB ^ (n + 1) := hT.lt
                    have hmeas : rowQ wr g (n + 1) = D := rowQ_own hown8 hDl
                    have hDV : D < V := by rw [hD]; have := HTM.out; have := HTP.out; omega
                    have hDm : D % m = a / DB ^ i % m := by rw [hD, Lf.sub_mod' HTM.out]; exact hVm.out
                    have HD := Lib.hid hDl; have HME := Lib.hid hmeas; have HDV := Lib.hid hDV; have HDM := Lib.hid hDm
                    clear hD hDl hmeas hDV hDm hown hkn
                    have hkk : ¬ (((n + 1 : Nat) : Int) ≤ (n : Int)) := by omega
                    go_wp2_with fail
                    go_roundw
                    case rel => first | exact ⟨D, HD.out, HDM, hown8, hbel⟩ | exact ⟨D, HD.out, HDM, hown8⟩
                    case measure => rw [HME.out, HVM.out]; exact HDV.out
end Go.Proofs.YtaggpodckafbgaaGreatDoor
/- The inverse by halves: plain. -/
namespace Go.Proofs.YtaggpodckafbgaaGreatDoor
namespace Bin
def IsX (p a x u : Nat) : Prop := x < p ∧ ∃ t : Int, (x : Int) * a - u = p * t
def hv (p x : Nat) : Nat := if x % 2 = 1 then (x + p) / 2 else x / 2
def ls (p x y : Nat) : Nat := if x < y then x + p - y else x - y
theorem half_core {p a x u h g k : Int} (hp : p = 2 * k + 1) (hu : u = 2 * g) (hh : 2 * h = x ∨ 2 * h = x + p) {t : Int} (ht : x * a - u = p * t) : ∃ s : Int, h * a - g = p * s := by
  rcases hh with hh | hh
  · refine ⟨(h * a - g) - k * t, ?_⟩
    have : 2 * (h * a - g) = p * t := by rw [← ht, ← hh, hu]; grind
    grind
  · refine ⟨(h * a - g) - k * (t + a), ?_⟩
    have : 2 * (h * a - g) = p * (t + a) := by
      have : 2 * (h * a) = (x + p) * a := by rw [← hh]; grind
      grind
    grind
theorem IsX.half {p a x u : Nat} (h : IsX p a x u) (hp : p % 2 = 1) (hu : u % 2 = 0) : IsX p a (hv p x) (u / 2) := by
  obtain ⟨hx, t, ht⟩ := h
  refine ⟨by unfold hv; split <;> omega, ?_⟩
  refine half_core (k := (p / 2 : Nat)) (x := x) (u := u) (p := p) (by omega) (by omega) ?_ ht
  unfold hv
  split
  · right; omega
  · left; omega
theorem sub_core {p a x y u v z e : Int} {s t : Int} (hz : z = x - y + e * p) (ht : x * a - u = p * t) (hs : y * a - v = p * s) : z * a - (u - v) = p * (t - s + e * a) := by
  subst hz; grind
theorem IsX.less {p a x y u v : Nat} (h : IsX p a x u) (h' : IsX p a y v) (huv : v ≤ u) : IsX p a (ls p x y) (u - v) := by
  obtain ⟨hx, t, ht⟩ := h
  obtain ⟨hy, s, hs⟩ := h'
  refine ⟨by unfold ls; split <;> omega, ?_⟩
  rw [Int.ofNat_sub huv]
  unfold ls
  split
  · exact ⟨_, sub_core (e := 1) (by omega) ht hs⟩
  · exact ⟨_, sub_core (e := 0) (by omega) ht hs⟩
theorem IsX.one {p a x : Nat} (h : IsX p a x 1) (hp : 1 < p) : x * a % p = 1 := by
  obtain ⟨_, t, ht⟩ := h
  have h1 : ((x * a : Nat) : Int) % p = 1 := by
    have : ((x * a : Nat) : Int) = 1 + p * t := by rw [Int.natCast_mul]; grind
    rw [this, Int.add_mul_emod_self_left]
    exact Int.emod_eq_of_lt (by omega) (by omega)
  exact_mod_cast h1
theorem IsX.start {p a : Nat} (hp : 1 < p) : IsX p a 1 (a % p) := by
  refine ⟨hp, (a / p : Nat), ?_⟩
  have := Nat.div_add_mod a p
  have h2 : (p : Int) * ((a / p : Nat) : Int) + ((a % p : Nat) : Int) = a := by exact_mod_cast this
  grind
theorem IsX.p {p a : Nat} (hp : 1 < p) : IsX p a 0 p := ⟨by omega, -1, by grind⟩
theorem cop_half {u v : Nat} (h : Nat.gcd u v = 1) (hu : u % 2 = 0) : Nat.gcd (u / 2) v = 1 := by
  have hd : u / 2 ∣ u := ⟨2, by omega⟩
  have := Nat.gcd_dvd_gcd_of_dvd_left v hd
  rw [h] at this
  exact Nat.dvd_one.1 this
theorem cop_sub {u v : Nat} (h : Nat.gcd u v = 1) (huv : v ≤ u) : Nat.gcd (u - v) v = 1 := by
  rw [Nat.gcd_sub_self_left huv]; exact h
theorem pos_of_cop {u v : Nat} (h : Nat.gcd u v = 1) (hv : v ≠ 1) : 0 < u := by
  rcases Nat.eq_zero_or_pos u with h0 | h0
  · rw [h0, Nat.gcd_zero_left] at h; exact absurd h hv
  · exact h0
end Bin
end Go.Proofs.YtaggpodckafbgaaGreatDoor
