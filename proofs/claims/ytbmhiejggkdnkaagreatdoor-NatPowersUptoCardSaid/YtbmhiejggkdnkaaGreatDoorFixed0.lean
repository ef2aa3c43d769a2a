/- What the document fixes: the closed facts. -/
import Derived.Test.YtbmhiejggkdnkaaGreatDoorPad
import Derived.Test.YtbmhiejggkdnkaaGreatDoorInvPub
import Derived.Test.YtbmhiejggkdnkaaGreatDoorPowPub
import Derived.Test.YtbmhiejggkdnkaaGreatDoorMontPub
namespace Go.Proofs.YtbmhiejggkdnkaaGreatDoor
open Go.RowKit

theorem fm_small {v : Nat} (h0 : 0 < v) (h : v < 256) : fm v = [UInt8.ofNat v] := by
  rw [fm, dif_neg (by omega), Nat.div_eq_of_lt h, fm_zero, Nat.mod_eq_of_lt h]; rfl
theorem len_small {v : Nat} (h0 : 0 < v) (h : v < 256) : Dg.len 256 v = 1 := by
  rw [Dg.len_pos (by omega) h0, Nat.div_eq_of_lt h, Dg.len_zero]

theorem fix_pow {l : List UInt8} {n : Int} (h : PowR ⟨#[2]⟩ ⟨#[10]⟩ ⟨#[3, 232]⟩ l n) : l = [24] ∧ n = 0 := by
  unfold PowR at h
  have e1 : nv ⟨#[2]⟩ = 2 := rfl
  have e2 : nv ⟨#[10]⟩ = 10 := rfl
  have e3 : nv ⟨#[3, 232]⟩ = 1000 := rfl
  rw [if_neg (by decide), e1, e2, e3, if_neg (by omega)] at h
  obtain ⟨rfl, rfl⟩ := h
  exact ⟨fm_small (by omega) (by omega), rfl⟩
theorem fix_inv {l : List UInt8} {n : Int} (h : InvR ⟨#[3]⟩ ⟨#[7]⟩ l n) : l = [5] ∧ n = 0 := by
  unfold InvR at h
  have e1 : nv ⟨#[3]⟩ = 3 := rfl
  have e3 : nv ⟨#[7]⟩ = 7 := rfl
  rw [if_neg (by decide), e1, e3, if_neg (by omega), if_neg (by decide)] at h
  obtain ⟨rfl, x, hx, hi, rfl⟩ := h
  obtain rfl : x = 5 := by omega
  exact ⟨fm_small (by omega) (by omega), rfl⟩
theorem fix_none {l : List UInt8} {n : Int} (h : InvR ⟨#[2]⟩ ⟨#[4]⟩ l n) : l = [] ∧ n = 33 := by
  unfold InvR at h
  have e1 : nv ⟨#[2]⟩ = 2 := rfl
  have e3 : nv ⟨#[4]⟩ = 4 := rfl
  rw [if_neg (by decide), e1, e3, if_neg (by omega), if_pos (by decide)] at h
  exact h
theorem fix_mont {l : List UInt8} {n : Int} (h : MontR ⟨#[1]⟩ ⟨#[1]⟩ ⟨#[7]⟩ l n) : l = [2] ∧ n = 0 := by
  unfold MontR at h
  have e1 : nv ⟨#[1]⟩ = 1 := rfl
  have e3 : nv ⟨#[7]⟩ = 7 := rfl
  rw [if_neg (by decide), e1, e3, if_neg (by omega), if_neg (by decide), len_small (by omega) (by omega)] at h
  obtain ⟨rfl, x, hx, hi, rfl⟩ := h
  obtain rfl : x = 2 := by omega
  exact ⟨fm_small (by omega) (by omega), rfl⟩
theorem fix_even {l : List UInt8} {n : Int} (h : MontR ⟨#[5]⟩ ⟨#[3]⟩ ⟨#[8]⟩ l n) : l = [] ∧ n = 34 := by
  unfold MontR at h
  have e3 : nv ⟨#[8]⟩ = 8 := rfl
  rw [if_neg (by decide), e3, if_neg (by omega), if_pos (by decide)] at h
  exact h
theorem fix_div : divR ⟨#[1, 0]⟩ ⟨#[7]⟩ = ([36], [4], 0) := by
  unfold divR
  have e1 : nv ⟨#[1, 0]⟩ = 256 := rfl
  have e3 : nv ⟨#[7]⟩ = 7 := rfl
  rw [if_neg (by decide), e1, e3, if_neg (by omega), fm_small (by omega) (by omega), fm_small (by omega) (by omega)]; rfl
theorem fix_zero : divR ⟨#[1]⟩ ⟨#[]⟩ = ([], [], 31) := by
  unfold divR
  have e3 : nv ⟨#[]⟩ = 0 := rfl
  rw [if_neg (by decide), if_pos e3]
theorem fix_pad : PadR ⟨#[1, 0]⟩ 1 = ([], 35) := by
  unfold PadR
  have e1 : nv ⟨#[1, 0]⟩ = 256 := rfl
  have e2 : Dg.len 256 256 = 2 := by rw [Dg.len_pos (by omega) (by omega), show 256 / 256 = 1 from rfl, len_small (by omega) (by omega)]
  rw [e1, e2, if_pos (by omega)]
theorem fix_sub : subR ⟨#[1]⟩ ⟨#[2]⟩ = ([], 32) := by
  unfold subR
  have e1 : nv ⟨#[1]⟩ = 1 := rfl
  have e2 : nv ⟨#[2]⟩ = 2 := rfl
  rw [if_neg (by decide), e1, e2, if_pos (by omega)]
theorem fix_trim : fm (bv (ByteArray.mk #[0, 1]).data.toList) = [1] := fm_small (v := 1) (by omega) (by omega)
theorem fix_bits : Dg.len 2 (nv ⟨#[0, 1, 0]⟩) = 9 := by
  have e1 : nv ⟨#[0, 1, 0]⟩ = 256 := rfl
  rw [e1]
  exact Dg.len_unique (by omega) (by omega) (Or.inr (by decide))
end Go.Proofs.YtbmhiejggkdnkaaGreatDoor
