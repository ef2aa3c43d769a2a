/- limbs.cmp: the walk. -/
import Derived.Test.YtbmhiejggkdnkaaGreatDoorTrim
namespace Go.Proofs.YtbmhiejggkdnkaaGreatDoor
open Go.RowKit

/-- The base of the limbs. (A plain name: the numeral stays out of the walks.) -/
def LB : Nat := 4294967296
theorem LB_eq : LB = 4294967296 := rfl
theorem LB2 : 2 ≤ LB := by rw [LB_eq]; omega

/-- The slice reads as the number v, without noughts above. -/
structure Num (w : World) (ao : Option Addr) (n cap v : Nat) : Prop where
  len : n = Dg.len LB v
  rd : Rd w .u32 ao n cap (Dg.dg LB v)

theorem Num.below {w w' : World} {B : Nat} {ao : Option Addr} {n cap v : Nat} (h : Num w ao n cap v) (hb : Below B w w') (hB : w.heap.size ≤ B) : Num w' ao n cap v := ⟨h.len, h.rd.below hb hB⟩
theorem Num.drewN {w : World} {ao : Option Addr} {n cap v : Nat} (h : Num w ao n cap v) (q : Nat) : Num (w.drewN q) ao n cap v := ⟨h.len, h.rd.sh, h.rd.le, h.rd.cm, fun j hj => h.rd.cell j hj⟩
theorem Num.lt {w : World} {ao : Option Addr} {n cap v : Nat} (h : Num w ao n cap v) : v < LB ^ n := by rw [h.len]; exact Dg.lt_pow_len LB2 v

/-- Order as Go tells it. -/
def cmpN (a b : Nat) : Int := if a < b then -1 else if a = b then 0 else 1
theorem cmpN_lt {a b : Nat} (h : a < b) : cmpN a b = -1 := by simp [cmpN, h]
theorem cmpN_eq (a : Nat) : cmpN a a = 0 := by simp [cmpN]
theorem cmpN_gt {a b : Nat} (h : b < a) : cmpN a b = 1 := by
  have h1 : ¬ a < b := by omega
  have h2 : ¬ a = b := by omega
  simp [cmpN, h1, h2]

set_option maxRecDepth 100000 in
theorem cmp_any (ao bo : Option Addr) (n c m d a b : Nat) (w : World) (ha : Num w ao n c a) (hb : Num w bo m d b) :
    Calls Tryz.prog 48 #[.slice ao n c, .slice bo m d] w fun e w' => e = .returned (.int .i64 (cmpN a b)) ∧ ∃ q, w' = w.drewN q := by
  have hn := Nat.le_trans ha.rd.le ha.rd.cm
  have hm := Nat.le_trans hb.rd.le hb.rd.cm
  by_cases hnm : n < m
  · have hr : cmpN a b = -1 := cmpN_lt (Dg.lt_of_len LB2 (by rw [← ha.len, ← hb.len]; exact hnm))
    have HR := Lib.hid hr; clear hr
    go_enter Tryz.func48, Tryz.ntmps48
    go_wp2
    go_ret
    exact ⟨ret_int (by rw [HR.out]), 0, rfl⟩
  · by_cases hmn : m < n
    · have hr : cmpN a b = 1 := cmpN_gt (Dg.lt_of_len LB2 (by rw [← ha.len, ← hb.len]; exact hmn))
      have HR := Lib.hid hr; clear hr
      go_enter Tryz.func48, Tryz.ntmps48
      go_wp2
      go_ret
      exact ⟨ret_int (by rw [HR.out]), 0, rfl⟩
    · obtain rfl : n = m := by omega
      have hla := ha.lt
      have hlb := hb.lt
      have HLA := Lib.hid hla; clear hla
      have HLB := Lib.hid hlb; clear hlb
      clear hnm hmn
      go_enter Tryz.func48, Tryz.ntmps48
      go_wp2
      go_loopw [5] (fun i wr => ∃ (x : Int) (q : Nat), -1 ≤ x ∧ x < n ∧ i = .int .i64 x ∧ wr = w.drewN q ∧ ∀ j : Nat, x < j → j < n → Dg.dg LB a j = Dg.dg LB b j) (fun i _ => (intOf i + 1).toNat)
      case atStart => exact ⟨_, 0, by omega, by omega, rfl, rfl, fun j h1 h2 => absurd h1 (by omega)⟩
      case round =>
        obtain ⟨x, q, hx1, hx2, rfl, rfl, he⟩ := hrel
        have HE := Lib.hid he; clear he
        by_cases h0 : x < 0
        · go_wp2
          go_ret
          have hab : a = b := Dg.ext n HLA.out HLB.out fun j hj => HE.out j (by omega) hj
          exact ⟨ret_int (by rw [hab, cmpN_eq]), q, rfl⟩
        · obtain ⟨i, rfl⟩ := Int.eq_ofNat_of_zero_le (by omega : 0 ≤ x)
          have hca := ha.rd.cell i (by omega)
          have hcb := hb.rd.cell i (by omega)
          have hsa := ha.rd.sh
          have hsb := hb.rd.sh
          have hi : (i : Int) < n := hx2
          go_wp2
          go_quiet (fail)
          go_wp2
          · have hne : ((Dg.dg LB a i : Int) != (Dg.dg LB b i : Int)) = true := by assumption
            go_quiet (fail)
            go_wp2
            · have hlt : Dg.dg LB a i < Dg.dg LB b i := by assumption
              go_ret
              have h1 : a < b := Dg.lt_of_dg (n := n) (i := i) (by rw [LB_eq]; omega) HLA.out HLB.out (by omega) (fun j h1 h2 => HE.out j (by omega) h2) hlt
              exact ⟨ret_int (by rw [cmpN_lt h1]), drawn3 _ _ _ _⟩
            · have hlt : ¬ Dg.dg LB a i < Dg.dg LB b i := by assumption
              have hne' := bne_cast hne
              go_ret
              have h1 : b < a := Dg.lt_of_dg (n := n) (i := i) (by rw [LB_eq]; omega) HLB.out HLA.out (by omega) (fun j h1 h2 => (HE.out j (by omega) h2).symm) (by omega)
              exact ⟨ret_int (by rw [cmpN_gt h1]), drawn3 _ _ _ _⟩
          · have hne : ((Dg.dg LB a i : Int) != (Dg.dg LB b i : Int)) = false := by assumption
            have heq := bne_cast_false hne
            go_roundw
            case rel =>
              refine ⟨_, _, by omega, by omega, rfl, rfl, fun j h1 h2 => ?_⟩
              by_cases e : j = i
              · rw [e]; exact heq
              · exact HE.out j (by omega) h2
            case measure => simp [intOf]
end Go.Proofs.YtbmhiejggkdnkaaGreatDoor
