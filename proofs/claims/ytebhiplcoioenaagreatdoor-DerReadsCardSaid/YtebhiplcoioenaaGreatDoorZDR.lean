/- ZRRuneP ZRRune, in one text. -/
import Derived.Test.YtebhiplcoioenaaGreatDoorZZDefs
import Derived.Test.YtebhiplcoioenaaGreatDoorZDQ
/- Runes by the document's way: what is tried for each number of bytes. Plain. -/
namespace Go.Proofs.YtebhiplcoioenaaGreatDoor

def runeT (n : Nat) : Bs :=
  if n < 128 then [UInt8.ofNat n]
  else if n < 2048 then [UInt8.ofNat (192 + n / 64), UInt8.ofNat (128 + n % 64)]
  else if n < 65536 then [UInt8.ofNat (224 + n / 4096), UInt8.ofNat (128 + n / 64 % 64), UInt8.ofNat (128 + n % 64)]
  else [UInt8.ofNat (240 + n / 262144), UInt8.ofNat (128 + n / 4096 % 64), UInt8.ofNat (128 + n / 64 % 64), UInt8.ofNat (128 + n % 64)]
def mayB (n : Nat) : Bool := decide (n ≤ 1114111) && (decide (n < 55296) || decide (57343 < n))
theorem of_eq {k : Nat} (hk : k < 256) (a : UInt8) : UInt8.ofNat k = a ↔ k = a.toNat := by
  constructor
  · intro h
    rw [← h, UInt8.toNat_ofNat']
    exact (Nat.mod_eq_of_lt hk).symm
  · intro h
    rw [h]
    exact UInt8.ofNat_toNat
theorem rn_le : ∀ s : Bs, runeN s ≤ 4 ∧ runeN s ≤ s.length
  | [] => ⟨Nat.zero_le _, Nat.le_refl _⟩
  | a :: r => by
    simp only [runeN, List.length_cons]
    by_cases h : a.toNat < 128
    · rw [if_pos h]; omega
    · rw [if_neg h]
      cases r with
      | nil => simp
      | cons b r =>
        simp only [List.length_cons]
        by_cases h2 : 194 ≤ a.toNat ∧ a.toNat ≤ 223
        · rw [if_pos h2]; split <;> omega
        · rw [if_neg h2]
          cases r with
          | nil => simp
          | cons c r =>
            simp only [List.length_cons]
            by_cases h3 : 224 ≤ a.toNat ∧ a.toNat ≤ 239
            · rw [if_pos h3]; split <;> omega
            · rw [if_neg h3]
              cases r with
              | nil => simp
              | cons d r =>
                simp only [List.length_cons]
                split <;> omega
theorem rn1 (a : UInt8) (r : Bs) : runeN (a :: r) = 1 ↔ a.toNat < 128 := by
  simp only [runeN]
  by_cases h : a.toNat < 128
  · rw [if_pos h]; simp [h]
  · rw [if_neg h]
    cases r with
    | nil => simp; omega
    | cons b r =>
      simp only
      by_cases h2 : 194 ≤ a.toNat ∧ a.toNat ≤ 223
      · rw [if_pos h2]; split <;> omega
      · rw [if_neg h2]
        cases r with
        | nil => simp; omega
        | cons c r =>
          simp only
          by_cases h3 : 224 ≤ a.toNat ∧ a.toNat ≤ 239
          · rw [if_pos h3]; split <;> omega
          · rw [if_neg h3]
            cases r with
            | nil => simp; omega
            | cons d r =>
              simp only
              split <;> omega
theorem rn2 (a b : UInt8) (r : Bs) : runeN (a :: b :: r) = 2 ↔ 194 ≤ a.toNat ∧ a.toNat ≤ 223 ∧ b.toNat / 64 = 2 := by
  simp only [runeN]
  by_cases h : a.toNat < 128
  · rw [if_pos h]; omega
  · rw [if_neg h]
    by_cases h2 : 194 ≤ a.toNat ∧ a.toNat ≤ 223
    · rw [if_pos h2]; split <;> omega
    · rw [if_neg h2]
      cases r with
      | nil => simp; omega
      | cons c r =>
        simp only
        by_cases h3 : 224 ≤ a.toNat ∧ a.toNat ≤ 239
        · rw [if_pos h3]; split <;> omega
        · rw [if_neg h3]
          cases r with
          | nil => simp; omega
          | cons d r =>
            simp only
            split <;> omega
theorem rn3 (a b c : UInt8) (r : Bs) : runeN (a :: b :: c :: r) = 3 ↔ 224 ≤ a.toNat ∧ a.toNat ≤ 239 ∧ b.toNat / 64 = 2 ∧ c.toNat / 64 = 2 ∧ (a.toNat = 224 → 160 ≤ b.toNat) ∧ (a.toNat = 237 → b.toNat < 160) := by
  simp only [runeN]
  by_cases h : a.toNat < 128
  · rw [if_pos h]; omega
  · rw [if_neg h]
    by_cases h2 : 194 ≤ a.toNat ∧ a.toNat ≤ 223
    · rw [if_pos h2]; split <;> omega
    · rw [if_neg h2]
      by_cases h3 : 224 ≤ a.toNat ∧ a.toNat ≤ 239
      · rw [if_pos h3]; split <;> omega
      · rw [if_neg h3]
        cases r with
        | nil => simp; omega
        | cons d r =>
          simp only
          split <;> omega
theorem rn4 (a b c d : UInt8) (r : Bs) : runeN (a :: b :: c :: d :: r) = 4 ↔ 240 ≤ a.toNat ∧ a.toNat ≤ 244 ∧ b.toNat / 64 = 2 ∧ c.toNat / 64 = 2 ∧ d.toNat / 64 = 2 ∧ (a.toNat = 240 → 144 ≤ b.toNat) ∧ (a.toNat = 244 → b.toNat < 144) := by
  simp only [runeN]
  by_cases h : a.toNat < 128
  · rw [if_pos h]; omega
  · rw [if_neg h]
    by_cases h2 : 194 ≤ a.toNat ∧ a.toNat ≤ 223
    · rw [if_pos h2]; split <;> omega
    · rw [if_neg h2]
      by_cases h3 : 224 ≤ a.toNat ∧ a.toNat ≤ 239
      · rw [if_pos h3]; split <;> omega
      · rw [if_neg h3]
        split <;> omega
theorem may_iff (n : Nat) : mayB n = true ↔ n ≤ 1114111 ∧ (n < 55296 ∨ 57343 < n) := by unfold mayB; simp
theorem ok1 (a : UInt8) (r : Bs) : (mayB a.toNat = true ∧ runeT a.toNat = [a]) ↔ runeN (a :: r) = 1 := by
  have ha := a.toNat_lt
  rw [rn1, may_iff]
  unfold runeT
  by_cases h : a.toNat < 128
  · rw [if_pos h]; simp [h]; omega
  · rw [if_neg h, if_pos (by omega)]; simp; omega
theorem ok2 (a b : UInt8) (r : Bs) : (mayB (a.toNat % 32 * 64 + b.toNat % 64) = true ∧ runeT (a.toNat % 32 * 64 + b.toNat % 64) = [a, b]) ↔ runeN (a :: b :: r) = 2 := by
  have ha := a.toNat_lt
  have hb := b.toNat_lt
  rw [rn2, may_iff]
  obtain ⟨n, hn⟩ : ∃ n, n = a.toNat % 32 * 64 + b.toNat % 64 := ⟨_, rfl⟩
  rw [← hn]
  have h1 : n / 64 = a.toNat % 32 := by omega
  have h2 : n % 64 = b.toNat % 64 := by omega
  unfold runeT
  by_cases h : n < 128
  · rw [if_pos h]; simp; omega
  · rw [if_neg h, if_pos (by omega)]
    simp only [List.cons.injEq, and_true]
    rw [of_eq (by omega), of_eq (by omega), h1, h2]
    omega
theorem ok3 (a b c : UInt8) (r : Bs) : (mayB (a.toNat % 16 * 4096 + b.toNat % 64 * 64 + c.toNat % 64) = true ∧ runeT (a.toNat % 16 * 4096 + b.toNat % 64 * 64 + c.toNat % 64) = [a, b, c]) ↔ runeN (a :: b :: c :: r) = 3 := by
  have ha := a.toNat_lt
  have hb := b.toNat_lt
  have hc := c.toNat_lt
  rw [rn3, may_iff]
  obtain ⟨n, hn⟩ : ∃ n, n = a.toNat % 16 * 4096 + b.toNat % 64 * 64 + c.toNat % 64 := ⟨_, rfl⟩
  rw [← hn]
  have h1 : n / 4096 = a.toNat % 16 := by omega
  have h2 : n / 64 % 64 = b.toNat % 64 := by omega
  have h3 : n % 64 = c.toNat % 64 := by omega
  unfold runeT
  by_cases h : n < 128
  · rw [if_pos h]; simp; omega
  · rw [if_neg h]
    by_cases h5 : n < 2048
    · rw [if_pos h5]; simp; omega
    · rw [if_neg h5, if_pos (by omega)]
      simp only [List.cons.injEq, and_true]
      rw [of_eq (by omega), of_eq (by omega), of_eq (by omega), h1, h2, h3]
      omega
theorem ok4 (a b c d : UInt8) (r : Bs) : (mayB (a.toNat % 8 * 262144 + b.toNat % 64 * 4096 + c.toNat % 64 * 64 + d.toNat % 64) = true ∧ runeT (a.toNat % 8 * 262144 + b.toNat % 64 * 4096 + c.toNat % 64 * 64 + d.toNat % 64) = [a, b, c, d]) ↔ runeN (a :: b :: c :: d :: r) = 4 := by
  have ha := a.toNat_lt
  have hb := b.toNat_lt
  have hc := c.toNat_lt
  have hd := d.toNat_lt
  rw [rn4, may_iff]
  obtain ⟨n, hn⟩ : ∃ n, n = a.toNat % 8 * 262144 + b.toNat % 64 * 4096 + c.toNat % 64 * 64 + d.toNat % 64 := ⟨_, rfl⟩
  rw [← hn]
  have h1 : n / 262144 = a.toNat % 8 := by omega
  have h2 : n / 4096 % 64 = b.toNat % 64 := by omega
  have h3 : n / 64 % 64 = c.toNat % 64 := by omega
  have h4 : n % 64 = d.toNat % 64 := by omega
  unfold runeT
  by_cases h : n < 128
  · rw [if_pos h]; simp; omega
  · rw [if_neg h]
    by_cases h5 : n < 2048
    · rw [if_pos h5]; simp; omega
    · rw [if_neg h5]
      by_cases h6 : n < 65536
      · rw [if_pos h6]; simp; omega
      · rw [if_neg h6]
        simp only [List.cons.injEq, and_true]
        rw [of_eq (by omega), of_eq (by omega), of_eq (by omega), of_eq (by omega), h1, h2, h3, h4]
        omega
end Go.Proofs.YtebhiplcoioenaaGreatDoor
/- ostiaryref01.Rune, May: the walks. -/
namespace Go.Proofs.YtebhiplcoioenaaGreatDoor
open Go.RowKit

theorem conv_k (l : List Nat) (hl : ∀ n ∈ l, n < 256) (h8 : l.length ≤ 8) (cs : Array Value) (hcs : cs = (l.map fun (n : Nat) => Value.int .u8 n).toArray) (u : World) : (convert 68 9 (.slice (some ⟨u.heap.size, 0, none⟩) l.length l.length)).run Tryz.prog (u.alloc (.cells cs 5)) = .ok (.string (bs (l.map UInt8.ofNat))) (u.alloc (.cells cs 5)) := by
  have := conv_l (l.map UInt8.ofNat) cs (by
    rw [hcs]
    unfold ByC
    rw [List.map_map]
    congr 1
    refine List.map_congr_left fun n hn => ?_
    show Value.int .u8 (n : Int) = Value.int .u8 ((UInt8.ofNat n).toNat : Int)
    rw [u8_lt n (hl n hn)]) u (by simpa using h8)
  rwa [List.length_map] at this
set_option maxRecDepth 100000 in
set_option maxHeartbeats 4000000 in
theorem May_any (n : Nat) (w : World) (hn : n ≤ 4294967296) : Calls Tryz.prog 127 #[.int .i64 (n : Nat)] w fun e w' => e = .returned (.bool (mayB n)) ∧ w' = w := by
  have hM : mayB n = (decide (n ≤ 1114111) && (decide (n < 55296) || decide (57343 < n))) := rfl
  rw [hM]
  clear hM
  have h0 : (0 : Int) ≤ (n : Int) := by omega
  by_cases h1 : n ≤ 1114111
  · have h1z : (n : Int) ≤ 1114111 := by omega
    rw [decide_eq_true h1]
    by_cases h2 : n < 55296
    · have h2z : (n : Int) < 55296 := by omega
      rw [decide_eq_true h2]
      clear h1 h2
      go_enter Tryz.func127, Tryz.ntmps127
      go_wp2_with fail
      go_ret
      exact ⟨rfl, rfl⟩
    · have h2z : ¬ (n : Int) < 55296 := by omega
      rw [decide_eq_false h2]
      by_cases h3 : 57343 < n
      · have h3z : (57343 : Int) < (n : Int) := by omega
        rw [decide_eq_true h3]
        clear h1 h2 h3
        go_enter Tryz.func127, Tryz.ntmps127
        go_wp2_with fail
        go_ret
        exact ⟨rfl, rfl⟩
      · have h3z : ¬ (57343 : Int) < (n : Int) := by omega
        rw [decide_eq_false h3]
        clear h1 h2 h3
        go_enter Tryz.func127, Tryz.ntmps127
        go_wp2_with fail
        go_ret
        exact ⟨rfl, rfl⟩
  · have h1z : ¬ (n : Int) ≤ 1114111 := by omega
    rw [decide_eq_false h1]
    clear h1
    go_enter Tryz.func127, Tryz.ntmps127
    go_wp2_with fail
    go_ret
    exact ⟨rfl, rfl⟩
set_option maxRecDepth 100000 in
set_option maxHeartbeats 4000000 in
theorem Rune_any (n : Nat) (w : World) (hn : n < 2097152) : Calls Tryz.prog 128 #[.int .i64 (n : Nat)] w fun e w' => e = .returned (.string (bs (runeT n))) ∧ Below w.heap.size w w' := by
  by_cases h1 : n < 128
  · have h1z : (n : Int) < 128 := by omega
    have HX : Hid (runeT n = [n].map UInt8.ofNat) := Lib.hid (by unfold runeT; rw [if_pos h1]; rfl)
    have hcv : ∀ u : World, (convert 68 9 (.slice (some ⟨u.heap.size, 0, none⟩) 1 1)).run Tryz.prog (u.alloc (.cells #[.int .u8 (n : Int)] 5)) = .ok (.string (bs ([n].map UInt8.ofNat))) (u.alloc (.cells #[.int .u8 (n : Int)] 5)) := fun u => conv_k [n] (by simp; omega) (by simp) #[.int .u8 (n : Int)] rfl u
    generalize [n].map UInt8.ofNat = R at *
    have HB := Lib.hid (b_alloc w (.cells #[.int .u8 (n : Int)] 5))
    clear h1
    go_enter Tryz.func128, Tryz.ntmps128
    go_wp2_with fail
    go_ret
    rw [HX.out]
    exact ⟨rfl, HB.out⟩
  · have h1z : ¬ (n : Int) < 128 := by omega
    by_cases h2 : n < 2048
    · have h2z : (n : Int) < 2048 := by omega
      have HX : Hid (runeT n = [192 + n / 64, 128 + n % 64].map UInt8.ofNat) := Lib.hid (by unfold runeT; rw [if_neg h1, if_pos h2]; rfl)
      have hcv : ∀ u : World, (convert 68 9 (.slice (some ⟨u.heap.size, 0, none⟩) 2 2)).run Tryz.prog (u.alloc (.cells #[.int .u8 (192 + (n : Int) / 64), .int .u8 (128 + (n : Int) % 64)] 5)) = .ok (.string (bs ([192 + n / 64, 128 + n % 64].map UInt8.ofNat))) (u.alloc (.cells #[.int .u8 (192 + (n : Int) / 64), .int .u8 (128 + (n : Int) % 64)] 5)) := fun u => conv_k [192 + n / 64, 128 + n % 64] (by simp; omega) (by simp) #[.int .u8 (192 + (n : Int) / 64), .int .u8 (128 + (n : Int) % 64)] (by simp) u
      generalize [192 + n / 64, 128 + n % 64].map UInt8.ofNat = R at *
      have HB := Lib.hid (b_alloc w (.cells #[.int .u8 (192 + (n : Int) / 64), .int .u8 (128 + (n : Int) % 64)] 5))
      clear h1 h2
      go_enter Tryz.func128, Tryz.ntmps128
      go_wp2_with fail
      go_ret
      rw [HX.out]
      exact ⟨rfl, HB.out⟩
    · have h2z : ¬ (n : Int) < 2048 := by omega
      by_cases h3 : n < 65536
      · have h3z : (n : Int) < 65536 := by omega
        have HX : Hid (runeT n = [224 + n / 4096, 128 + n / 64 % 64, 128 + n % 64].map UInt8.ofNat) := Lib.hid (by unfold runeT; rw [if_neg h1, if_neg h2, if_pos h3]; rfl)
        have hcv : ∀ u : World, (convert 68 9 (.slice (some ⟨u.heap.size, 0, none⟩) 3 3)).run Tryz.prog (u.alloc (.cells #[.int .u8 (224 + (n : Int) / 4096), .int .u8 (128 + (n : Int) / 64 % 64), .int .u8 (128 + (n : Int) % 64)] 5)) = .ok (.string (bs ([224 + n / 4096, 128 + n / 64 % 64, 128 + n % 64].map UInt8.ofNat))) (u.alloc (.cells #[.int .u8 (224 + (n : Int) / 4096), .int .u8 (128 + (n : Int) / 64 % 64), .int .u8 (128 + (n : Int) % 64)] 5)) := fun u => conv_k [224 + n / 4096, 128 + n / 64 % 64, 128 + n % 64] (by simp; omega) (by simp) #[.int .u8 (224 + (n : Int) / 4096), .int .u8 (128 + (n : Int) / 64 % 64), .int .u8 (128 + (n : Int) % 64)] (by simp) u
        generalize [224 + n / 4096, 128 + n / 64 % 64, 128 + n % 64].map UInt8.ofNat = R at *
        have HB := Lib.hid (b_alloc w (.cells #[.int .u8 (224 + (n : Int) / 4096), .int .u8 (128 + (n : Int) / 64 % 64), .int .u8 (128 + (n : Int) % 64)] 5))
        clear h1 h2 h3
        go_enter Tryz.func128, Tryz.ntmps128
        go_wp2_with fail
        go_ret
        rw [HX.out]
        exact ⟨rfl, HB.out⟩
      · have h3z : ¬ (n : Int) < 65536 := by omega
        have HX : Hid (runeT n = [240 + n / 262144, 128 + n / 4096 % 64, 128 + n / 64 % 64, 128 + n % 64].map UInt8.ofNat) := Lib.hid (by unfold runeT; rw [if_neg h1, if_neg h2, if_neg h3]; rfl)
        have hcv : ∀ u : World, (convert 68 9 (.slice (some ⟨u.heap.size, 0, none⟩) 4 4)).run Tryz.prog (u.alloc (.cells #[.int .u8 (240 + (n : Int) / 262144), .int .u8 (128 + (n : Int) / 4096 % 64), .int .u8 (128 + (n : Int) / 64 % 64), .int .u8 (128 + (n : Int) % 64)] 5)) = .ok (.string (bs ([240 + n / 262144, 128 + n / 4096 % 64, 128 + n / 64 % 64, 128 + n % 64].map UInt8.ofNat))) (u.alloc (.cells #[.int .u8 (240 + (n : Int) / 262144), .int .u8 (128 + (n : Int) / 4096 % 64), .int .u8 (128 + (n : Int) / 64 % 64), .int .u8 (128 + (n : Int) % 64)] 5)) := fun u => conv_k [240 + n / 262144, 128 + n / 4096 % 64, 128 + n / 64 % 64, 128 + n % 64] (by simp; omega) (by simp) #[.int .u8 (240 + (n : Int) / 262144), .int .u8 (128 + (n : Int) / 4096 % 64), .int .u8 (128 + (n : Int) / 64 % 64), .int .u8 (128 + (n : Int) % 64)] (by simp) u
        generalize [240 + n / 262144, 128 + n / 4096 % 64, 128 + n / 64 % 64, 128 + n % 64].map UInt8.ofNat = R at *
        have HB := Lib.hid (b_alloc w (.cells #[.int .u8 (240 + (n : Int) / 262144), .int .u8 (128 + (n : Int) / 4096 % 64), .int .u8 (128 + (n : Int) / 64 % 64), .int .u8 (128 + (n : Int) % 64)] 5))
        clear h1 h2 h3
        go_enter Tryz.func128, Tryz.ntmps128
        go_wp2_with fail
        go_ret
        rw [HX.out]
        exact ⟨rfl, HB.out⟩
end Go.Proofs.YtebhiplcoioenaaGreatDoor
