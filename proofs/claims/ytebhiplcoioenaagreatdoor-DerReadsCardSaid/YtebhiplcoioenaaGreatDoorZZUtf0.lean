/- Runes: the model's decoding and the plain meaning. -/
import Derived.Test.YtebhiplcoioenaaGreatDoorZDG
import Derived.Test.YtebhiplcoioenaaGreatDoorZYDec
namespace Go.Proofs.YtebhiplcoioenaaGreatDoor
open Go.RowKit

/-- The model's decoding: of so many bytes, the first four of them. -/
def decN (n A B C D : Nat) : Nat × Nat :=
  if A < 0x80 then (A, 1)
  else if (A / 32 == 6 && (decide (1 < n) && B / 64 == 2)) = true then
    if A % 32 * 64 + B % 64 ≥ 0x80 then (A % 32 * 64 + B % 64, 2) else (65533, 1)
  else if (A / 16 == 14 && (decide (1 < n) && B / 64 == 2) && (decide (2 < n) && C / 64 == 2)) = true then
    if (decide (A % 16 * 4096 + B % 64 * 64 + C % 64 ≥ 0x800) && Utf8.valid ((A % 16 * 4096 + B % 64 * 64 + C % 64 : Nat) : Int)) = true then (A % 16 * 4096 + B % 64 * 64 + C % 64, 3) else (65533, 1)
  else if (A / 8 == 30 && (decide (1 < n) && B / 64 == 2) && (decide (2 < n) && C / 64 == 2) && (decide (3 < n) && D / 64 == 2)) = true then
    if (decide (A % 8 * 262144 + B % 64 * 4096 + C % 64 * 64 + D % 64 ≥ 0x10000) && Utf8.valid ((A % 8 * 262144 + B % 64 * 4096 + C % 64 * 64 + D % 64 : Nat) : Int)) = true then (A % 8 * 262144 + B % 64 * 4096 + C % 64 * 64 + D % 64, 4) else (65533, 1)
  else (65533, 1)
def atN (t : Bs) (k : Nat) : Nat := (t[k]?.getD 0).toNat
def decL (t : Bs) : Nat × Nat := decN t.length (atN t 0) (atN t 1) (atN t 2) (atN t 3)
theorem get_drop (s : Bs) (pos k : Nat) : (bs s).get! (pos + k) = (s.drop pos)[k]?.getD 0 := by
  rw [List.getElem?_drop]
  by_cases h : pos + k < s.length
  · rw [get_in (bs s) _ (by rw [bs_size]; exact h), List.getElem?_eq_getElem h]
    exact bs_get s _ _ (List.getElem?_eq_getElem h) _
  · rw [List.getElem?_eq_none (by omega)]
    have : ¬ pos + k < (bs s).data.size := by
      have := bs_size s
      have e : (bs s).size = (bs s).data.size := rfl
      omega
    show (bs s).data[pos + k]! = 0
    rw [getElem!_neg (bs s).data (pos + k) this]
    rfl
theorem decL_is (s : Bs) (pos : Nat) (h : pos ≤ s.length) : Utf8.decode (bs s) pos = decL (s.drop pos) := by
  have hl : ∀ k, decide (pos + k < (bs s).size) = decide (k < (s.drop pos).length) := fun k => by
    rw [bs_size, List.length_drop]
    exact decide_eq_decide.2 (by omega)
  unfold Utf8.decode decL decN atN
  simp only [get_drop, hl, Utf8.runeError]
theorem valid_iff (n : Nat) : Utf8.valid (n : Int) = decide (n < 55296 ∨ (57344 ≤ n ∧ n ≤ 1114111)) := by
  unfold Utf8.valid
  by_cases h : n < 55296 ∨ (57344 ≤ n ∧ n ≤ 1114111)
  · rw [decide_eq_true h]; rcases h with h | h <;> simp <;> omega
  · rw [decide_eq_false h]; simp; omega
def runeNN (n A B C D : Nat) : Nat :=
  if A < 128 then 1
  else if n < 2 then 0
  else if 194 ≤ A ∧ A ≤ 223 then (if B / 64 = 2 then 2 else 0)
  else if n < 3 then 0
  else if 224 ≤ A ∧ A ≤ 239 then (if B / 64 = 2 ∧ C / 64 = 2 ∧ (A = 224 → 160 ≤ B) ∧ (A = 237 → B < 160) then 3 else 0)
  else if n < 4 then 0
  else if 240 ≤ A ∧ A ≤ 244 ∧ B / 64 = 2 ∧ C / 64 = 2 ∧ D / 64 = 2 ∧ (A = 240 → 144 ≤ B) ∧ (A = 244 → B < 144) then 4 else 0
theorem runeN_is : ∀ (a : UInt8) (r : Bs), runeN (a :: r) = runeNN (a :: r).length (atN (a :: r) 0) (atN (a :: r) 1) (atN (a :: r) 2) (atN (a :: r) 3)
  | a, [] => by
    show (if a.toNat < 128 then 1 else 0) = runeNN 1 a.toNat 0 0 0
    unfold runeNN
    rw [if_pos (show 1 < 2 by decide)]
  | a, [b] => by
    show (if a.toNat < 128 then 1 else if 194 ≤ a.toNat ∧ a.toNat ≤ 223 then (if b.toNat / 64 = 2 then 2 else 0) else 0) = runeNN 2 a.toNat b.toNat 0 0
    unfold runeNN
    rw [if_neg (show ¬ 2 < 2 by decide), if_pos (show 2 < 3 by decide)]
  | a, [b, c] => by
    show (if a.toNat < 128 then 1 else if 194 ≤ a.toNat ∧ a.toNat ≤ 223 then (if b.toNat / 64 = 2 then 2 else 0) else if 224 ≤ a.toNat ∧ a.toNat ≤ 239 then (if b.toNat / 64 = 2 ∧ c.toNat / 64 = 2 ∧ (a.toNat = 224 → 160 ≤ b.toNat) ∧ (a.toNat = 237 → b.toNat < 160) then 3 else 0) else 0) = runeNN 3 a.toNat b.toNat c.toNat 0
    unfold runeNN
    rw [if_neg (show ¬ 3 < 2 by decide), if_neg (show ¬ 3 < 3 by decide), if_pos (show 3 < 4 by decide)]
  | a, b :: c :: d :: q => by
    show (if a.toNat < 128 then 1 else if 194 ≤ a.toNat ∧ a.toNat ≤ 223 then (if b.toNat / 64 = 2 then 2 else 0) else if 224 ≤ a.toNat ∧ a.toNat ≤ 239 then (if b.toNat / 64 = 2 ∧ c.toNat / 64 = 2 ∧ (a.toNat = 224 → 160 ≤ b.toNat) ∧ (a.toNat = 237 → b.toNat < 160) then 3 else 0) else if 240 ≤ a.toNat ∧ a.toNat ≤ 244 ∧ b.toNat / 64 = 2 ∧ c.toNat / 64 = 2 ∧ d.toNat / 64 = 2 ∧ (a.toNat = 240 → 144 ≤ b.toNat) ∧ (a.toNat = 244 → b.toNat < 144) then 4 else 0) = runeNN (q.length + 4) a.toNat b.toNat c.toNat d.toNat
    unfold runeNN
    rw [if_neg (show ¬ q.length + 4 < 2 by omega), if_neg (show ¬ q.length + 4 < 3 by omega), if_neg (show ¬ q.length + 4 < 4 by omega)]
theorem has3 (t : Bs) : Lib.hasPrefix t [239, 191, 189] = decide (3 ≤ t.length ∧ atN t 0 = 239 ∧ atN t 1 = 191 ∧ atN t 2 = 189) := by
  have hb : ∀ (x : UInt8) (k : Nat) (h : k < 256), (UInt8.ofNat k == x) = decide (x.toNat = k) := fun x k hk => by
    by_cases e : x.toNat = k
    · rw [decide_eq_true e, ← e]; simp
    · rw [decide_eq_false e]
      have : ¬ UInt8.ofNat k = x := fun h => e (by rw [← h, UInt8.toNat_ofNat']; omega)
      simpa using this
  unfold Lib.hasPrefix
  match t with
  | [] => rfl
  | [a] => show ((239 : UInt8) == a && false) = decide (3 ≤ 1 ∧ _); simp
  | [a, b] => show ((239 : UInt8) == a && ((191 : UInt8) == b && false)) = decide (3 ≤ 2 ∧ _); simp
  | a :: b :: c :: q =>
    show ((239 : UInt8) == a && ((191 : UInt8) == b && ((189 : UInt8) == c && true))) = decide (3 ≤ q.length + 3 ∧ a.toNat = 239 ∧ b.toNat = 191 ∧ c.toNat = 189)
    rw [show ((239 : UInt8) == a) = decide (a.toNat = 239) from hb a 239 (by decide), show ((191 : UInt8) == b) = decide (b.toNat = 191) from hb b 191 (by decide), show ((189 : UInt8) == c) = decide (c.toNat = 189) from hb c 189 (by decide)]
    by_cases h1 : a.toNat = 239 <;> by_cases h2 : b.toNat = 191 <;> by_cases h3 : c.toNat = 189 <;> simp [h1, h2, h3]
/-- A rune's length, by the model's decoding. -/
theorem rune_decN (n A B C D : Nat) (hn : 1 ≤ n) (hA : A < 256) (hB : B < 256) (_hC : C < 256) (_hD : D < 256) : 1 ≤ (decN n A B C D).2 ∧ (decN n A B C D).2 ≤ n ∧ (decN n A B C D).1 ≤ 1114111 ∧
    runeNN n A B C D = if (decN n A B C D).1 = 65533 ∧ ¬ (3 ≤ n ∧ A = 239 ∧ B = 191 ∧ C = 189) then 0 else (decN n A B C D).2 := by
  unfold decN runeNN
  simp only [valid_iff, Bool.and_eq_true, decide_eq_true_eq, beq_iff_eq]
  by_cases h0 : A < 128
  · simp only [if_pos h0]
    refine ⟨Nat.le_refl _, hn, by omega, ?_⟩
    rw [if_neg (by omega)]
  simp only [if_neg h0]
  by_cases h1 : A / 32 = 6 ∧ 1 < n ∧ B / 64 = 2
  · simp only [if_pos h1]
    by_cases h2 : A % 32 * 64 + B % 64 ≥ 128
    · simp only [if_pos h2]
      refine ⟨by omega, by omega, by omega, ?_⟩
      rw [if_neg (by omega), if_pos (by omega), if_pos (by omega), if_neg (by omega)]
    · simp only [if_neg h2]
      refine ⟨by omega, by omega, by omega, ?_⟩
      rw [if_pos (show True ∧ ¬ (3 ≤ n ∧ A = 239 ∧ B = 191 ∧ C = 189) from ⟨trivial, by omega⟩)]
      rw [if_neg (by omega), if_neg (by omega)]
      repeat' split
      all_goals omega
  simp only [if_neg h1]
  by_cases h3 : (A / 16 = 14 ∧ 1 < n ∧ B / 64 = 2) ∧ 2 < n ∧ C / 64 = 2
  · simp only [if_pos h3]
    by_cases h4 : A % 16 * 4096 + B % 64 * 64 + C % 64 ≥ 2048 ∧ (A % 16 * 4096 + B % 64 * 64 + C % 64 < 55296 ∨ (57344 ≤ A % 16 * 4096 + B % 64 * 64 + C % 64 ∧ A % 16 * 4096 + B % 64 * 64 + C % 64 ≤ 1114111))
    · simp only [if_pos h4]
      refine ⟨by omega, by omega, by omega, ?_⟩
      rw [if_neg (by omega), if_neg (by omega), if_neg (by omega), if_pos (by omega), if_pos (by omega)]
      by_cases h5 : A % 16 * 4096 + B % 64 * 64 + C % 64 = 65533
      · rw [if_neg (by omega)]
      · rw [if_neg (by omega)]
    · simp only [if_neg h4]
      refine ⟨by omega, by omega, by omega, ?_⟩
      rw [if_pos (show True ∧ ¬ (3 ≤ n ∧ A = 239 ∧ B = 191 ∧ C = 189) from ⟨trivial, by omega⟩)]
      rw [if_neg (by omega), if_neg (by omega), if_neg (by omega), if_pos (by omega), if_neg (by omega)]
  simp only [if_neg h3]
  by_cases h6 : ((A / 8 = 30 ∧ 1 < n ∧ B / 64 = 2) ∧ 2 < n ∧ C / 64 = 2) ∧ 3 < n ∧ D / 64 = 2
  · simp only [if_pos h6]
    by_cases h7 : A % 8 * 262144 + B % 64 * 4096 + C % 64 * 64 + D % 64 ≥ 65536 ∧ (A % 8 * 262144 + B % 64 * 4096 + C % 64 * 64 + D % 64 < 55296 ∨ (57344 ≤ A % 8 * 262144 + B % 64 * 4096 + C % 64 * 64 + D % 64 ∧ A % 8 * 262144 + B % 64 * 4096 + C % 64 * 64 + D % 64 ≤ 1114111))
    · simp only [if_pos h7]
      refine ⟨by omega, by omega, by omega, ?_⟩
      rw [if_neg (by omega), if_neg (by omega), if_neg (by omega), if_neg (by omega), if_neg (by omega), if_pos (by omega), if_neg (by omega)]
    · simp only [if_neg h7]
      refine ⟨by omega, by omega, by omega, ?_⟩
      rw [if_pos (show True ∧ ¬ (3 ≤ n ∧ A = 239 ∧ B = 191 ∧ C = 189) from ⟨trivial, by omega⟩)]
      rw [if_neg (by omega), if_neg (by omega), if_neg (by omega), if_neg (by omega), if_neg (by omega), if_neg (by omega)]
  · simp only [if_neg h6]
    refine ⟨by omega, by omega, by omega, ?_⟩
    rw [if_pos (show True ∧ ¬ (3 ≤ n ∧ A = 239 ∧ B = 191 ∧ C = 189) from ⟨trivial, by omega⟩)]
    repeat' split
    all_goals omega
theorem rune_dec (a : UInt8) (r : Bs) : 1 ≤ (decL (a :: r)).2 ∧ (decL (a :: r)).2 ≤ (a :: r).length ∧ (decL (a :: r)).1 ≤ 1114111 ∧
    runeN (a :: r) = if (decL (a :: r)).1 = 65533 ∧ Lib.hasPrefix (a :: r) [239, 191, 189] = false then 0 else (decL (a :: r)).2 := by
  have hb : ∀ k, atN (a :: r) k < 256 := fun k => UInt8.toNat_lt _
  have := rune_decN (a :: r).length (atN (a :: r) 0) (atN (a :: r) 1) (atN (a :: r) 2) (atN (a :: r) 3) (by simp) (hb 0) (hb 1) (hb 2) (hb 3)
  rw [runeN_is, has3]
  unfold decL
  simpa using this
end Go.Proofs.YtebhiplcoioenaaGreatDoor
