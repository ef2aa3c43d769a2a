/- What the laws take, more. -/
import Derived.Test.YtbmhiejggkdnkaaGreatDoorLawKit
namespace Go.Proofs.YtbmhiejggkdnkaaGreatDoor
open Go.RowKit

theorem pow_mono {j k : Nat} (h : j ≤ k) : 256 ^ j ≤ 256 ^ k := Nat.pow_le_pow_right (by omega) h
theorem tx_mul {A B j k n : Nat} (hA : A < 256 ^ j) (hB : B < 256 ^ k) (h : j + k ≤ n) : (tx (A * B)).size ≤ n := by
  refine tx_le (Nat.lt_of_lt_of_le (Nat.mul_lt_mul'' hA hB) ?_)
  rw [← Nat.pow_add]; exact pow_mono h
theorem tx_add {A B j k n : Nat} (hA : A < 256 ^ j) (hB : B < 256 ^ k) (hj : j < n) (hk : k < n) : (tx (A + B)).size ≤ n := by
  obtain ⟨t, rfl⟩ : ∃ t, n = t + 1 := ⟨n - 1, by omega⟩
  refine tx_le ?_
  have h1 := Nat.lt_of_lt_of_le hA (pow_mono (show j ≤ t by omega))
  have h2 := Nat.lt_of_lt_of_le hB (pow_mono (show k ≤ t by omega))
  rw [Nat.pow_succ]; omega
theorem tx_zero : tx 0 = ⟨#[]⟩ := by unfold tx; rw [fm_zero]
theorem str_ne {a b : ByteArray} (h : a ≠ b) : (a.toList == b.toList) = false := by
  rw [beq_eq_false_iff_ne, Lib.toList_data, Lib.toList_data]
  intro he
  exact h (ByteArray.ext (Array.toList_inj.1 he))
theorem tx_ne {A B : Nat} (h : A ≠ B) : ((tx A).toList == (tx B).toList) = false := str_ne fun he => h (tx_inj he)
theorem tx_pos {v : Nat} (h : 0 < v) : (tx v).toList.isEmpty = false := by
  rw [Lib.toList_data]
  show (fm v).isEmpty = false
  obtain ⟨x, r, hf, _⟩ := top_bits v h
  rw [hf]; rfl
theorem cmpN_three (A B : Nat) : (A < B ∧ cmpN A B = -1) ∨ (A = B ∧ cmpN A B = 0) ∨ (B < A ∧ cmpN A B = 1) := by
  rcases Nat.lt_trichotomy A B with h | h | h
  · exact Or.inl ⟨h, cmpN_lt h⟩
  · subst h; exact Or.inr (Or.inl ⟨rfl, cmpN_eq _⟩)
  · exact Or.inr (Or.inr ⟨h, cmpN_gt h⟩)
theorem cmp_okB (a b : ByteArray) (A B : Nat) (w : World) (hA : nv a = A) (hB : nv b = B) :
    Calls Tryz.prog 21 #[.string a, .string b] w fun e w' => e = .returned (.int .i64 (cmpN A B)) ∧ Below w.heap.size w w' :=
  (cmp_ok a b A B w hA hB).mono fun _ _ ⟨he, q, hq⟩ => ⟨he, by rw [hq]; exact below_drawn (Below.refl _ _) q⟩
end Go.Proofs.YtbmhiejggkdnkaaGreatDoor
