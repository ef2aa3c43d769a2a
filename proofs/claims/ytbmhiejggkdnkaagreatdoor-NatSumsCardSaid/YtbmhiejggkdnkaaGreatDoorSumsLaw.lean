/- NatSums: the walk. -/
import Derived.Test.YtbmhiejggkdnkaaGreatDoorRSums
namespace Go.Proofs.YtbmhiejggkdnkaaGreatDoor
open Go.RowKit

def lgB (a b : ByteArray) : Prop := 512 < a.size ∨ 512 < b.size
instance (a b : ByteArray) : Decidable (lgB a b) := inferInstanceAs (Decidable (512 < a.size ∨ 512 < b.size))
def lgE (a b : ByteArray) : Int := if lgB a b then 30 else 0
def tA (a b : ByteArray) : ByteArray := if lgB a b then ⟨#[]⟩ else tx (nv a + nv b)
def tB (a b : ByteArray) : ByteArray := if lgB a b then ⟨#[]⟩ else sm1 (nv a) (nv b)
def tC (a b : ByteArray) : ByteArray := if lgB a b then ⟨#[]⟩ else tx (nv a * nv b)
def tD (a b : ByteArray) : ByteArray := if lgB a b then ⟨#[]⟩ else sm3 (nv a) (nv b)
def tE (a b : ByteArray) : ByteArray := if lgB a b then ⟨#[]⟩ else sm4 (nv a) (nv b)
theorem SumsV_eq (a b : ByteArray) : SumsV a b = #[.string (tA a b), .string (tB a b), .string (tC a b), .string (tD a b), .string (tE a b)] := by
  unfold SumsV tA tB tC tD tE
  by_cases h : lgB a b
  · rw [if_pos h, if_pos h, if_pos h, if_pos h, if_pos h, if_pos (show 512 < a.size ∨ 512 < b.size from h)]
  · rw [if_neg h, if_neg h, if_neg h, if_neg h, if_neg h, if_neg (show ¬ (512 < a.size ∨ 512 < b.size) from h)]
theorem add_s (a b : ByteArray) (w : World) (ha : a.size ≤ 140737488351232) (hb : b.size ≤ 140737488351232) :
    Calls Tryz.prog 16 #[.string a, .string b] w fun e w' => e = .returned (.tuple #[.string (tA a b), .int .i64 (lgE a b)]) ∧ Below w.heap.size w w' := by
  refine (Add_any a b w (by omega) (by omega)).mono ?_
  rintro e w' ⟨rfl, hb⟩
  refine ⟨?_, hb⟩
  unfold addR tA lgE
  by_cases h : lgB a b
  · rw [if_pos h, if_pos h, if_pos (show 512 < a.size ∨ 512 < b.size from h)]; rfl
  · rw [if_neg h, if_neg h, if_neg (show ¬ (512 < a.size ∨ 512 < b.size) from h)]; rfl
theorem mul_s (a b : ByteArray) (w : World) (ha : a.size ≤ 140737488351232) (hb : b.size ≤ 140737488351232) :
    Calls Tryz.prog 18 #[.string a, .string b] w fun e w' => e = .returned (.tuple #[.string (tC a b), .int .i64 (lgE a b)]) ∧ Below w.heap.size w w' := by
  refine (Mul_any a b w (by omega) (by omega)).mono ?_
  rintro e w' ⟨rfl, hb⟩
  refine ⟨?_, hb⟩
  unfold mulR tC lgE
  by_cases h : lgB a b
  · rw [if_pos h, if_pos h, if_pos (show 512 < a.size ∨ 512 < b.size from h)]; rfl
  · rw [if_neg h, if_neg h, if_neg (show ¬ (512 < a.size ∨ 512 < b.size) from h)]; rfl
theorem sub_s (a b : ByteArray) (w : World) (ha : a.size ≤ 140737488351232) (hb : b.size ≤ 140737488351232) :
    Calls Tryz.prog 17 #[.string a, .string b] w fun e w' => e = .returned (.tuple #[.string (tB a b), .int .i64 (SumsE a b)]) ∧ Below w.heap.size w w' := by
  refine (Sub_any a b w (by omega) (by omega)).mono ?_
  rintro e w' ⟨rfl, hb⟩
  refine ⟨?_, hb⟩
  unfold subR tB SumsE
  by_cases h : lgB a b
  · rw [if_pos h, if_pos (show 512 < a.size ∨ 512 < b.size from h), if_pos (show 512 < a.size ∨ 512 < b.size from h)]; rfl
  · rw [if_neg h, if_neg (show ¬ (512 < a.size ∨ 512 < b.size) from h), if_neg (show ¬ (512 < a.size ∨ 512 < b.size) from h)]
    unfold sm1 smE
    by_cases h2 : nv a < nv b
    · rw [if_pos h2, if_neg (by omega), if_neg (by omega)]; rfl
    · rw [if_neg h2, if_pos (by omega), if_pos (by omega)]; rfl
theorem div_s (a b : ByteArray) (w : World) (ha : a.size ≤ 140737488351232) (hb : b.size ≤ 140737488351232) :
    Calls Tryz.prog 19 #[.string a, .string b] w fun e w' => e = .returned (.tuple #[.string (tD a b), .string (tE a b), .int .i64 (SumsF a b)]) ∧ Below w.heap.size w w' := by
  refine (Div_any a b w (by omega) (by omega)).mono ?_
  rintro e w' ⟨rfl, hb⟩
  refine ⟨?_, hb⟩
  unfold divR tD tE SumsF
  by_cases h : lgB a b
  · rw [if_pos h, if_pos h, if_pos (show 512 < a.size ∨ 512 < b.size from h), if_pos (show 512 < a.size ∨ 512 < b.size from h)]; rfl
  · rw [if_neg h, if_neg h, if_neg (show ¬ (512 < a.size ∨ 512 < b.size) from h), if_neg (show ¬ (512 < a.size ∨ 512 < b.size) from h)]
    unfold sm3 sm4 smF
    by_cases h2 : nv b = 0
    · rw [if_pos h2, if_pos h2, if_pos h2, if_pos h2]; rfl
    · rw [if_neg h2, if_neg h2, if_neg h2, if_neg h2]; rfl

set_option maxRecDepth 100000 in
set_option maxHeartbeats 3200000 in
theorem law_any (a b : ByteArray) (w : World) (ha : a.size ≤ 140737488351232) (hb : b.size ≤ 140737488351232) :
    Calls Tryz.prog 4 #[.string a, .string b] w fun e w' => e = .returned (.bool true) ∧ Below w.heap.size w w' := by
  by_cases hl : lgB a b
  all_goals
    obtain ⟨L, hL⟩ : ∃ L, L = lgE a b := ⟨_, rfl⟩
    have hL2 := hL
    unfold lgE at hL2
    first | rw [if_pos hl] at hL2 | rw [if_neg hl] at hL2
    have hd : decide (512 < a.size ∨ 512 < b.size) = decide (lgB a b) := rfl
    first | rw [decide_eq_true hl] at hd | rw [decide_eq_false hl] at hd
    have HL := Lib.hid hL; have HL2 := Lib.hid hL2; have HD := Lib.hid hd
    clear hl hL hL2 hd
    go_enter Tryz.func4, Tryz.ntmps4
    go_wp2_with fail
    refine (sums_any a b _ (by omega) (by omega)).mono ?_
    rintro e w1 ⟨rfl, hb1⟩
    rw [SumsV_eq]
    go_wp2_with fail
    obtain ⟨g, hg⟩ : ∃ g, g = w1.heap.size := ⟨_, rfl⟩
    obtain ⟨W2, hW2⟩ : ∃ W2, W2 = w1.alloc (.cells #[.string (tA a b), .string (tB a b), .string (tC a b), .string (tD a b), .string (tE a b)] 35) := ⟨_, rfl⟩
    have hr2 : Arr W2 g #[.string (tA a b), .string (tB a b), .string (tC a b), .string (tD a b), .string (tE a b)] 35 := by rw [hW2, hg]; exact Arr.new _ _ _
    have hb2 : Below w.heap.size w W2 := by rw [hW2]; exact hb1.alloc hb1.size _
    rw [← hW2, ← hg]
    clear hW2 hg hb1
    refine (add_s a b _ (by omega) (by omega)).mono ?_
    rintro e w3 ⟨rfl, hb3⟩
    have hr3 := hr2.below hb3 (Nat.le_refl _)
    have hb3 := hb2.trans (hb3.mono hb2.size); clear hb2 hr2
    go_wp2_with fail
    refine (sub_s a b _ (by omega) (by omega)).mono ?_
    rintro e w4 ⟨rfl, hb4⟩
    have hr4 := hr3.below hb4 (Nat.le_refl _)
    have hb4 := hb3.trans (hb4.mono hb3.size); clear hb3 hr3
    go_wp2_with fail
    refine (mul_s a b _ (by omega) (by omega)).mono ?_
    rintro e w5 ⟨rfl, hb5⟩
    have hr5 := hr4.below hb5 (Nat.le_refl _)
    have hb5 := hb4.trans (hb5.mono hb4.size); clear hb4 hr4
    go_wp2_with fail
    refine (div_s a b _ (by omega) (by omega)).mono ?_
    rintro e w6 ⟨rfl, hb6⟩
    have hr6 := hr5.below hb6 (Nat.le_refl _)
    have hb6 := hb5.trans (hb6.mono hb5.size); clear hb5 hr5
    go_wp2_with fail
    refine (long_two a b _ _ (by simp) (by omega) (by omega)).mono ?_
    rintro e w7 ⟨rfl, rfl⟩
    rw [HD.out]
    have hbs : Below w6.heap.size w6 (w6.alloc (.cells #[.string a, .string b] 9)) := (Below.refl _ _).alloc (Nat.le_refl _) _
    have hr7 := hr6.below hbs (Nat.le_refl _)
    have hb7 := hb6.trans (hbs.mono hb6.size)
    clear hb6 hr6 hbs
    go_wp2_with fail
    refine (fixed_any _).mono ?_
    rintro e w8 ⟨rfl, hb8⟩
    have hr8 := hr7.below hb8 (Nat.le_refl _)
    have hb8 := hb7.trans (hb8.mono hb7.size); clear hb7 hr7
    have c0 := hr8.cell (j := 0) rfl; have c1 := hr8.cell (j := 1) rfl; have c2 := hr8.cell (j := 2) rfl; have c3 := hr8.cell (j := 3) rfl; have c4 := hr8.cell (j := 4) rfl
    have hL3 := HL.out.symm.trans HL2.out
    go_wp2_with fail
    go_ret
    exact ⟨rfl, hb8⟩
end Go.Proofs.YtbmhiejggkdnkaaGreatDoor
