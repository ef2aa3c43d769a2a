/- Numbers as texts: order, top byte: plain. -/
import Derived.Test.YtbmhiejggkdnkaaGreatDoorPow3
namespace Go.Proofs.YtbmhiejggkdnkaaGreatDoor
open Go.RowKit

theorem cmp_bytes : ∀ l m : List UInt8, l.length = m.length → Lib.compareBytes l m = cmpN (bv l) (bv m)
  | [], [], _ => by simp [Lib.compareBytes, cmpN]
  | [], _ :: _, h => by simp at h
  | _ :: _, [], h => by simp at h
  | a :: l, b :: m, h => by
    have hl : l.length = m.length := by simpa using h
    have ih := cmp_bytes l m hl
    have h1 := bv_lt l
    have h2 := bv_lt m
    rw [Lib.compareBytes, bv_cons, bv_cons, ih]
    rw [hl] at h1 ⊢
    generalize 256 ^ m.length = P at *
    by_cases hab : a < b
    · rw [if_pos hab, cmpN_lt]
      have h3 : a.toNat + 1 ≤ b.toNat := hab
      have h4 := Nat.mul_le_mul_right P h3
      rw [Nat.add_mul] at h4
      omega
    · rw [if_neg hab]
      by_cases hba : b < a
      · rw [if_pos hba, cmpN_gt]
        have h3 : b.toNat + 1 ≤ a.toNat := hba
        have h4 := Nat.mul_le_mul_right P h3
        rw [Nat.add_mul] at h4
        omega
      · have hE : a = b := by
          have h3 : ¬ a.toNat < b.toNat := hab
          have h4 : ¬ b.toNat < a.toNat := hba
          exact UInt8.toNat_inj.1 (by omega)
        rw [if_neg hba, hE]
        unfold cmpN
        by_cases h5 : bv l < bv m
        · rw [if_pos h5, if_pos (by omega)]
        · by_cases h6 : bv l = bv m
          · rw [if_neg h5, if_pos h6, if_neg (by omega), if_pos (by omega)]
          · rw [if_neg h5, if_neg h6, if_neg (by omega), if_neg (by omega)]

/-- The top byte of a text, and how many binary digits there are. -/
theorem top_bits (v : Nat) (h : 0 < v) : ∃ (c : UInt8) (r : List UInt8), fm v = c :: r ∧ Dg.len 2 v = 8 * r.length + Dg.len 2 c.toNat := by
  match hf : fm v with
  | [] =>
    have h1 := bv_fm v
    rw [hf] at h1
    have h2 : bv [] = 0 := rfl
    omega
  | c :: r =>
    refine ⟨c, r, rfl, ?_⟩
    have h1 := bv_fm v
    rw [hf, bv_cons] at h1
    have h2 := bv_lt r
    have h3 : 256 ^ r.length = 2 ^ (8 * r.length) := by rw [show (256 : Nat) = 2 ^ 8 from rfl, ← Nat.pow_mul]
    rw [h3] at h1 h2
    have hl := fm_length v
    rw [hf] at hl
    have hc0 : 0 < c.toNat := by
      apply Nat.pos_of_ne_zero
      intro h0
      rw [h0, Nat.zero_mul, Nat.zero_add] at h1
      have h4 := (Dg.len_le_iff (B := 256) (by omega) v r.length).2 (by rw [← h1, h3]; exact h2)
      rw [← hl, List.length_cons] at h4
      omega
    have hP : 0 < 2 ^ (8 * r.length) := Nat.pow_pos (by omega)
    apply Dg.len_unique (B := 2) (by omega)
    · rw [Nat.pow_add, ← h1]
      have h5 := Dg.lt_pow_len (B := 2) (by omega) c.toNat
      have h6 : (c.toNat + 1) * 2 ^ (8 * r.length) ≤ 2 ^ Dg.len 2 c.toNat * 2 ^ (8 * r.length) := Nat.mul_le_mul_right _ h5
      rw [Nat.add_mul, Nat.one_mul] at h6
      rw [Nat.mul_comm (2 ^ (8 * r.length))]
      omega
    · right
      have h7 : 0 < Dg.len 2 c.toNat := (Dg.len_pos_iff (B := 2) (by omega) _).2 hc0
      have h8 : 8 * r.length + Dg.len 2 c.toNat - 1 = 8 * r.length + (Dg.len 2 c.toNat - 1) := by omega
      rw [h8, ← Dg.dg_div]
      have h9 : v / 2 ^ (8 * r.length) = c.toNat := by
        rw [← h1, Nat.add_comm, Nat.add_mul_div_right _ _ hP, Nat.div_eq_of_lt h2, Nat.zero_add]
      rw [h9]
      exact Dg.dg_top (B := 2) (by omega) hc0
end Go.Proofs.YtbmhiejggkdnkaaGreatDoor
