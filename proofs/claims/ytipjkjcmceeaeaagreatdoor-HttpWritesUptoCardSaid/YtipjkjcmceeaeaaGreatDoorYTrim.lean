/- Plain: blanks are taken from both ends in any order; numbers digit by digit; spans. -/
import Derived.Test.YtipjkjcmceeaeaaGreatDoorYBack2
namespace Go.Proofs.YtipjkjcmceeaeaaGreatDoor
open Go

theorem dropW_head {p : UInt8 → Bool} : ∀ l : Bs, l.dropWhile p = [] ∨ ∃ a r, l.dropWhile p = a :: r ∧ p a = false := by
  intro l
  induction l with
  | nil => exact Or.inl rfl
  | cons a r ih =>
    rw [List.dropWhile_cons]
    split
    · exact ih
    · next h => exact Or.inr ⟨a, r, rfl, by simpa using h⟩
theorem dropW_app {p : UInt8 → Bool} : ∀ (l : Bs) (a : UInt8) (m : Bs), p a = false → (l ++ a :: m).dropWhile p = l.dropWhile p ++ a :: m := by
  intro l
  induction l with
  | nil => intro a m h; rw [List.nil_append, List.dropWhile_cons, if_neg (by rw [h]; decide)]; rfl
  | cons b r ih =>
    intro a m h
    rw [List.cons_append, List.dropWhile_cons, List.dropWhile_cons]
    split
    · exact ih a m h
    · rfl
theorem dropW_all {p : UInt8 → Bool} : ∀ {l : Bs}, l.all p = true → l.dropWhile p = [] := by
  intro l
  induction l with
  | nil => intro _; rfl
  | cons a r ih => intro h; rw [List.all_cons, Bool.and_eq_true] at h; rw [List.dropWhile_cons, if_pos h.1]; exact ih h.2
theorem trim_swap (l : Bs) : Lib.trimRightB (Lib.trimLeftB l 32) 32 = trimS l := by
  unfold trimS Lib.trimB Lib.trimLeftB Lib.trimRightB
  have hl : l = l.takeWhile (· == 32) ++ l.dropWhile (· == 32) := (List.takeWhile_append_dropWhile).symm
  rcases dropW_head (p := (· == 32)) l with h | ⟨a, r, h, ha⟩
  · rw [h] at hl ⊢
    rw [List.append_nil] at hl
    have hall : l.all (· == 32) = true := by rw [hl]; exact tw_all _ _
    have hrev : l.reverse.dropWhile (· == 32) = [] := dropW_all (by rw [List.all_reverse]; exact hall)
    rw [hrev]; rfl
  · have hsp : (l.takeWhile (· == 32)).all (· == 32) = true := tw_all _ _
    rw [h] at hl ⊢
    generalize l.takeWhile (· == 32) = sp at hl hsp
    subst hl
    have e1 : (sp ++ a :: r).reverse.dropWhile (· == 32) = r.reverse.dropWhile (· == 32) ++ a :: sp.reverse := by
      rw [List.reverse_append, List.reverse_cons, List.append_assoc]
      show (r.reverse ++ a :: sp.reverse).dropWhile (· == 32) = _
      exact dropW_app r.reverse a sp.reverse ha
    have e2 : (a :: r).reverse.dropWhile (· == 32) = r.reverse.dropWhile (· == 32) ++ [a] := by
      rw [List.reverse_cons]
      exact dropW_app r.reverse a [] ha
    rw [e1, e2]
    simp only [List.reverse_append, List.reverse_cons, List.reverse_nil, List.nil_append, List.append_assoc, List.reverse_reverse]
    have : ∀ (s : Bs) (m : Bs), s.all (· == 32) = true → (s ++ a :: m).dropWhile (· == 32) = a :: m := by
      intro s m hs
      rw [dropW_app s a m ha, dropW_all hs]; rfl
    exact (this sp _ hsp).symm
def spanA (lo but : Nat) : Nat → Bs
  | 0 => []
  | k + 1 => spanA lo but k ++ (if lo + k = but then [] else [UInt8.ofNat (lo + k)])
theorem span_target (c : UInt8) : (spanA 33 35 94).contains c = taC c := every_byte (P := fun c => (spanA 33 35 94).contains c = taC c) (by decide +kernel) c
theorem span_plain (c : UInt8) : (spanA 32 0 95).contains c = plC c := every_byte (P := fun c => (spanA 32 0 95).contains c = plC c) (by decide +kernel) c
theorem spanA_len (lo but : Nat) : ∀ k, (spanA lo but k).length ≤ k := by
  intro k
  induction k with
  | zero => exact Nat.le_refl _
  | succ k ih => rw [spanA, List.length_append]; split <;> simp <;> omega
theorem num_step (n : Nat) : numS n = (if n / 10 = 0 then [] else numS (n / 10)) ++ [UInt8.ofNat (48 + n % 10)] := by
  unfold numS
  by_cases h : n < 10
  · rw [if_pos (by omega), Lib.decDigits_one h, Nat.mod_eq_of_lt h]; rfl
  · rw [if_neg (by omega), Lib.decDigits, dif_neg h]
end Go.Proofs.YtipjkjcmceeaeaaGreatDoor
