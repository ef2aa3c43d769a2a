/- Plain: the tokens of a text; reading goes by them. -/
import Derived.Test.YthpagppipifgeaaGreatDoorZLD
namespace Go.Proofs.YthpagppipifgeaaGreatDoor
open Go.RowKit

/-- A word, a bracket, or a literal (its value; true). -/
abbrev Tok : Type := List UInt8 × Bool
theorem lit2_le {r b r' : List UInt8} (h : lit2 (litS r []) = some (b, r')) : r'.length ≤ r.length := by
  unfold lit2 at h
  cases hl : litS r [] with
  | none => rw [hl] at h; cases h
  | some q =>
    obtain ⟨b1, r1⟩ := q
    rw [hl] at h
    simp only at h
    split at h
    · cases h; exact litE_le r false [] _ _ hl
    · cases h
theorem drop_word {c : UInt8} {r : List UInt8} (h : wdC c = true) : ((c :: r).dropWhile wdC).length < (c :: r).length := by
  rw [List.dropWhile_cons, h]
  simp only [if_true]
  have := (List.dropWhile_suffix wdC (l := r)).length_le
  simp only [List.length_cons]; omega
/-- The tokens ahead of the first thing that is none, and whether all of the text is tokens. -/
def TK (s : List UInt8) : List Tok × Bool :=
  match s with
  | [] => ([], true)
  | c :: r =>
    if c = 32 then TK r
    else if c = 40 ∨ c = 41 then (([c], false) :: (TK r).1, (TK r).2)
    else if c = 34 then
      match _h : lit2 (litS r []) with
      | some (b, r') => ((b, true) :: (TK r').1, (TK r').2)
      | none => ([], false)
    else if _h : wdC c = true then (((c :: r).takeWhile wdC, false) :: (TK ((c :: r).dropWhile wdC)).1, (TK ((c :: r).dropWhile wdC)).2)
    else ([], false)
termination_by s.length
decreasing_by
  all_goals first
    | (simp only [List.length_cons]; omega)
    | (have := lit2_le _h; simp only [List.length_cons]; omega)
    | exact drop_word _h
theorem TK_nil : TK [] = ([], true) := by unfold TK; rfl
theorem TK_blank (r : List UInt8) : TK (32 :: r) = TK r := by rw [TK]; rfl
theorem TK_br {c : UInt8} (r : List UInt8) (h : c = 40 ∨ c = 41) : TK (c :: r) = (([c], false) :: (TK r).1, (TK r).2) := by
  rw [TK, if_neg (by rcases h with rfl | rfl <;> decide), if_pos h]
theorem TK_some {r b r' : List UInt8} (h : lit2 (litS r []) = some (b, r')) : TK (34 :: r) = ((b, true) :: (TK r').1, (TK r').2) := by
  rw [TK, if_neg (by decide), if_neg (by decide), if_pos rfl]
  split
  · next h2 => rw [h] at h2; cases h2; rfl
  · next h2 => rw [h] at h2; cases h2
theorem TK_none {r : List UInt8} (h : lit2 (litS r []) = none) : TK (34 :: r) = ([], false) := by
  rw [TK, if_neg (by decide), if_neg (by decide), if_pos rfl]
  split
  · next h2 => rw [h] at h2; cases h2
  · rfl
theorem wdC_not {c : UInt8} (h : wdC c = true) : ¬ c = 32 ∧ ¬ (c = 40 ∨ c = 41) ∧ ¬ c = 34 := by
  refine ⟨?_, ?_, ?_⟩
  · rintro rfl; revert h; decide
  · rintro (rfl | rfl) <;> revert h <;> decide
  · rintro rfl; revert h; decide
theorem TK_word {c : UInt8} (r : List UInt8) (h : wdC c = true) : TK (c :: r) = (((c :: r).takeWhile wdC, false) :: (TK ((c :: r).dropWhile wdC)).1, (TK ((c :: r).dropWhile wdC)).2) := by
  obtain ⟨h1, h2, h3⟩ := wdC_not h
  rw [TK, if_neg h1, if_neg h2, if_neg h3, dif_pos h]
theorem TK_bad {c : UInt8} (r : List UInt8) (h1 : ¬ c = 32) (h2 : ¬ (c = 40 ∨ c = 41)) (h3 : ¬ c = 34) (h4 : ¬ wdC c = true) : TK (c :: r) = ([], false) := by
  rw [TK, if_neg h1, if_neg h2, if_neg h3, dif_neg h4]
theorem TK_trL (s : List UInt8) : TK (trL s) = TK s := by
  induction s with
  | nil => rfl
  | cons c r ih =>
    by_cases h : c = 32
    · subst h
      rw [TK_blank, ← ih]
      congr 1
    · have : trL (c :: r) = c :: r := by unfold trL Lib.trimLeftB; rw [List.dropWhile_cons]; simp [h]
      rw [this]
theorem trL_head {s r : List UInt8} {c : UInt8} (h : trL s = c :: r) : ¬ c = 32 := by
  induction s with
  | nil => cases h
  | cons d s ih =>
    by_cases hd : d = 32
    · subst hd
      exact ih (by rw [← h]; unfold trL Lib.trimLeftB; rw [List.dropWhile_cons]; simp)
    · have : trL (d :: s) = d :: s := by unfold trL Lib.trimLeftB; rw [List.dropWhile_cons]; simp [hd]
      rw [this] at h; cases h; exact hd
theorem drop_take (p : UInt8 → Bool) (l : List UInt8) : l.drop (l.takeWhile p).length = l.dropWhile p := by
  induction l with
  | nil => rfl
  | cons x r ih =>
    rw [List.takeWhile_cons, List.dropWhile_cons]
    split
    · simpa using ih
    · rfl
theorem takeW_all (p : UInt8 → Bool) (l : List UInt8) : ∀ x ∈ l.takeWhile p, p x = true := by
  induction l with
  | nil => intro x hx; simp at hx
  | cons y r ih =>
    intro x hx
    rw [List.takeWhile_cons] at hx
    split at hx
    · next h => rcases List.mem_cons.1 hx with rfl | hx; exact h; exact ih x hx
    · simp at hx
/-- What a text begins with. -/
theorem TK_cases (s : List UInt8) :
    (trL s = [] ∧ TK s = ([], true) ∧ peekS (trL s) = ([], 0))
    ∨ (∃ c r, trL s = c :: r ∧ (c = 40 ∨ c = 41) ∧ TK s = (([c], false) :: (TK r).1, (TK r).2) ∧ peekS (trL s) = ([c], c.toNat))
    ∨ (∃ r, trL s = 34 :: r ∧ TK s = TK (34 :: r) ∧ peekS (trL s) = ([34], 34))
    ∨ (∃ w, w ≠ [] ∧ (∀ x ∈ w, wdC x = true) ∧ TK s = ((w, false) :: (TK ((trL s).drop w.length)).1, (TK ((trL s).drop w.length)).2) ∧ peekS (trL s) = (w, 119))
    ∨ (TK s = ([], false) ∧ peekS (trL s) = ([], 63)) := by
  have ht := TK_trL s
  cases hu : trL s with
  | nil => left; rw [hu] at ht; exact ⟨rfl, by rw [← ht, TK_nil], rfl⟩
  | cons c r =>
    right
    rw [hu] at ht
    have h32 := trL_head hu
    by_cases hb : c = 40 ∨ c = 41
    · left
      refine ⟨c, r, rfl, hb, by rw [← ht, TK_br r hb], ?_⟩
      unfold peekS
      simp only
      rw [if_pos (by rcases hb with h | h; exact Or.inl h; exact Or.inr (Or.inl h))]
    · right
      by_cases hq : c = 34
      · subst hq
        left
        exact ⟨r, rfl, ht.symm, rfl⟩
      · right
        have hp : ¬ (c = 40 ∨ c = 41 ∨ c = 34) := by rintro (h | h | h); exact hb (Or.inl h); exact hb (Or.inr h); exact hq h
        by_cases hw : wdC c = true
        · left
          have hne : (c :: r).takeWhile wdC ≠ [] := by rw [List.takeWhile_cons, hw]; simp
          refine ⟨(c :: r).takeWhile wdC, hne, fun x hx => takeW_all _ _ x hx, ?_, ?_⟩
          · rw [← ht, TK_word r hw, drop_take]
          · unfold peekS
            simp only
            rw [if_neg hp, if_neg hne]
        · right
          refine ⟨by rw [← ht, TK_bad r h32 hb hq hw], ?_⟩
          have he : (c :: r).takeWhile wdC = [] := by rw [List.takeWhile_cons]; simp [hw]
          unfold peekS
          simp only
          rw [if_neg hp, if_pos he]
end Go.Proofs.YthpagppipifgeaaGreatDoor
