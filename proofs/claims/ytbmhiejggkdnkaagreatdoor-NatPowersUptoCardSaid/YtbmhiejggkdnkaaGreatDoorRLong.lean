/- The reference's Left and Long: the walks. -/
import Derived.Test.YtbmhiejggkdnkaaGreatDoorRDivide
import Derived.Test.YtbmhiejggkdnkaaGreatDoorRTimes
import Derived.Test.YtbmhiejggkdnkaaGreatDoorRKit
import Derived.Laws.Rows
namespace Go.Proofs.YtbmhiejggkdnkaaGreatDoor
open Go.RowKit

theorem rleft_any (ao bo : Option Addr) (n c m d a b : Nat) (w : World) (ha : RN w ao n c a) (hb : RN w bo m d b) (hb0 : 0 < b) (hn : n ≤ 10000000) (hm : m ≤ 10000000) :
    Calls Tryz.prog 13 #[.slice ao n c, .slice bo m d] w (RetRN w (a % b)) := by
  go_enter Tryz.func13, Tryz.ntmps13
  go_wp2_with fail
  refine (rdiv_any ao bo n c m d a b _ ha hb hb0 hn hm).mono ?_
  rintro e w' ⟨qo, qn, qc, ro, rn, rc, rfl, hq, hr, hbel⟩
  go_wp2_with fail
  go_ret
  exact ⟨_, _, _, rfl, hr, hbel⟩

/-- Is one of them too long? -/
def lng (sf : Nat → ByteArray) (n : Nat) : Bool := decide (∃ j, j < n ∧ 512 < (sf j).size)

set_option maxRecDepth 100000 in
theorem long_any (g n cap : Nat) (sf : Nat → ByteArray) (w : World) (hn : n ≤ 100) (hs : ∀ j, j < n → (sf j).size ≤ 9223372036854775807) (hc : ∀ j, j < n → w.cell? ⟨g, j, none⟩ = some (.string (sf j))) :
    Calls Tryz.prog 8 #[.slice (some ⟨g, 0, none⟩) n cap] w fun e w' => e = .returned (.bool (lng sf n)) ∧ w = w' := by
  have HS := Lib.hid hs; have HC := Lib.hid hc; clear hs hc
  go_enter Tryz.func8, Tryz.ntmps8
  go_wp2_with fail
  go_loopw [3] (fun i wr => ∃ k : Nat, k ≤ n ∧ i = .int .i64 k ∧ Hid (∀ j, j < k → ¬ 512 < (sf j).size) ∧ wr = w) (fun i _ => n - (intOf i).toNat)
  case atStart => exact ⟨0, Nat.zero_le _, rfl, fun j hj => absurd hj (Nat.not_lt_zero j), rfl⟩
  case round =>
    obtain ⟨k, hk, rfl, hno, rfl⟩ := hrel
    by_cases hkn : k < n
    · have hcell := HC.out k hkn
      have hsz := HS.out k hkn
      obtain ⟨s, hsd⟩ : ∃ s, s = sf k := ⟨_, rfl⟩
      rw [← hsd] at hcell hsz
      have HSD := Lib.hid hsd; clear hsd
      by_cases h5 : 512 < s.size
      · go_wp2_with fail
        go_ret
        refine ⟨ret_bool ?_, by trivial⟩
        unfold lng
        rw [eq_comm, decide_eq_true_iff]
        exact ⟨k, hkn, by rw [← HSD.out]; exact h5⟩
      · go_wp2_with fail
        go_roundw
        case rel => exact ⟨k + 1, by omega, by go_num, fun j hj => by
          by_cases e : j = k
          · rw [e, ← HSD.out]; exact h5
          · exact hno.out j (by omega), by trivial⟩
        case measure => simp [intOf]; omega
    · obtain rfl : n = k := by omega
      go_wp2_with fail
      go_ret
      refine ⟨ret_bool ?_, by trivial⟩
      unfold lng
      rw [eq_comm, decide_eq_false_iff_not]
      rintro ⟨j, hj, h⟩
      exact hno.out j hj h

/-- Block g holds these cells and may be written. -/
def Arr (w : World) (g : Nat) (cs : Array Value) (t : Nat) : Prop := w.heap[g]? = some (.cells cs t (0, 0))
theorem Arr.lt {w : World} {g : Nat} {cs : Array Value} {t : Nat} (h : Arr w g cs t) : g < w.heap.size := (Array.getElem?_eq_some_iff.1 h).1
theorem Arr.below {w w' : World} {B : Nat} {g : Nat} {cs : Array Value} {t : Nat} (h : Arr w g cs t) (hb : Below B w w') (hB : w.heap.size ≤ B) : Arr w' g cs t :=
  (hb.block g (Nat.lt_of_lt_of_le h.lt hB)).trans h
theorem Arr.new (w : World) (cs : Array Value) (t : Nat) : Arr (w.alloc (.cells cs t)) w.heap.size cs t := heap_alloc_new _ _
theorem Arr.cell {w : World} {g : Nat} {cs : Array Value} {t : Nat} (h : Arr w g cs t) {j : Nat} {v : Value} (hv : cs[j]? = some v) : w.cell? ⟨g, j, none⟩ = some v := by
  have hh : w.heap[g]? = some (.cells cs t (0, 0)) := h
  simp [World.cell?, hh, hv]
theorem Arr.frozen {w : World} {g : Nat} {cs : Array Value} {t : Nat} (h : Arr w g cs t) (j : Nat) : w.frozen? ⟨g, j, none⟩ = false := by
  have hh : w.heap[g]? = some (.cells cs t (0, 0)) := h
  simp [World.frozen?, hh]
theorem Arr.set {w : World} {g : Nat} {cs : Array Value} {t : Nat} (h : Arr w g cs t) (j : Nat) (v : Value) : Arr (w.setCell ⟨g, j, none⟩ v) g (cs.setIfInBounds j v) t :=
  heap_setCell_same w g j cs t _ h
theorem Arr.other {w : World} {g : Nat} {cs : Array Value} {t : Nat} (h : Arr w g cs t) {a : Addr} {v : Value} (ha : g ≠ a.block) : Arr (w.setCell a v) g cs t :=
  (heap_setCell_other w a g v ha).trans h
theorem cell_other (w : World) (a : Addr) (v : Value) (p : Addr) (h : p.block ≠ a.block) : (w.setCell a v).cell? p = w.cell? p := by
  unfold World.cell?
  rw [heap_setCell_other w a p.block v h]
theorem rn_same {w w' : World} {ao : Option Addr} {n c v g : Nat} (h : RN w ao n c v) (hs : ∀ b o, b ≠ g → w'.cell? ⟨b, o, none⟩ = w.cell? ⟨b, o, none⟩) (hg : n = 0 ∨ blk ao ≠ g) : RN w' ao n c v :=
  ⟨h.len, h.rd.sh, h.rd.le, h.rd.cm, fun j hj => by
    rcases hg with h0 | h0
    · omega
    · rw [hs _ _ h0]; exact h.rd.cell j hj⟩
theorem rn_off {w : World} {ao : Option Addr} {n c v g : Nat} (h : RN w ao n c v) (hg : w.heap.size ≤ g) : n = 0 ∨ blk ao ≠ g := by
  rcases Nat.eq_zero_or_pos n with h0 | h0
  · exact Or.inl h0
  · right
    have := h.rd.lt h0
    omega
theorem Arr.drewN {w : World} {g : Nat} {cs : Array Value} {t : Nat} (h : Arr w g cs t) (q : Nat) : Arr (w.drewN q) g cs t := h

theorem pairsf {w : World} {a b : ByteArray} : ∀ j, j < 2 → (w.alloc (.cells #[.string a, .string b] 9)).cell? ⟨w.heap.size, j, none⟩ = some (.string ((fun i => if i = 0 then a else b) j)) := fun j hj => by
  have h : j = 0 ∨ j = 1 := by omega
  rcases h with rfl | rfl
  · exact (Arr.new w _ _).cell rfl
  · exact (Arr.new w _ _).cell rfl
theorem lng_two (a b : ByteArray) : lng (fun i => if i = 0 then a else b) 2 = decide (512 < a.size ∨ 512 < b.size) := by
  unfold lng
  refine decide_eq_decide.2 ⟨?_, ?_⟩
  · rintro ⟨j, hj, h⟩
    by_cases h0 : j = 0
    · subst h0; exact Or.inl h
    · obtain rfl : j = 1 := by omega
      exact Or.inr h
  · rintro (h | h)
    · exact ⟨0, by omega, h⟩
    · exact ⟨1, by omega, h⟩
theorem long_two (a b : ByteArray) (g : Nat) (w : World) (hg : g = w.heap.size) (ha : a.size ≤ 9223372036854775807) (hb : b.size ≤ 9223372036854775807) :
    Calls Tryz.prog 8 #[.slice (some ⟨g, 0, none⟩) 2 2] (w.alloc (.cells #[.string a, .string b] 9)) fun e w' => e = .returned (.bool (decide (512 < a.size ∨ 512 < b.size))) ∧ w.alloc (.cells #[.string a, .string b] 9) = w' := by
  subst hg
  have h := long_any w.heap.size 2 2 (fun i => if i = 0 then a else b) (w.alloc (.cells #[.string a, .string b] 9)) (by omega) (fun j _ => by
    show (if j = 0 then a else b).size ≤ _
    split <;> assumption) pairsf
  rwa [lng_two] at h

theorem lng_three (a b c : ByteArray) : lng (fun i => if i = 0 then a else if i = 1 then b else c) 3 = decide (512 < a.size ∨ 512 < b.size ∨ 512 < c.size) := by
  unfold lng
  refine decide_eq_decide.2 ⟨?_, ?_⟩
  · rintro ⟨j, hj, h⟩
    have : j = 0 ∨ j = 1 ∨ j = 2 := by omega
    rcases this with rfl | rfl | rfl
    · exact Or.inl h
    · exact Or.inr (Or.inl h)
    · exact Or.inr (Or.inr h)
  · rintro (h | h | h)
    · exact ⟨0, by omega, h⟩
    · exact ⟨1, by omega, h⟩
    · exact ⟨2, by omega, h⟩
theorem long_three (a b c : ByteArray) (g : Nat) (w : World) (hg : g = w.heap.size) (ha : a.size ≤ 9223372036854775807) (hb : b.size ≤ 9223372036854775807) (hc : c.size ≤ 9223372036854775807) :
    Calls Tryz.prog 8 #[.slice (some ⟨g, 0, none⟩) 3 3] (w.alloc (.cells #[.string a, .string b, .string c] 9)) fun e w' => e = .returned (.bool (decide (512 < a.size ∨ 512 < b.size ∨ 512 < c.size))) ∧ w.alloc (.cells #[.string a, .string b, .string c] 9) = w' := by
  subst hg
  have h := long_any w.heap.size 3 3 (fun i => if i = 0 then a else if i = 1 then b else c) (w.alloc (.cells #[.string a, .string b, .string c] 9)) (by omega) (fun j _ => by
    show (if j = 0 then a else if j = 1 then b else c).size ≤ _
    split
    · assumption
    · split <;> assumption) (fun j hj => by
    have : j = 0 ∨ j = 1 ∨ j = 2 := by omega
    rcases this with rfl | rfl | rfl
    · exact (Arr.new w _ _).cell rfl
    · exact (Arr.new w _ _).cell rfl
    · exact (Arr.new w _ _).cell rfl)
  rwa [lng_three] at h
end Go.Proofs.YtbmhiejggkdnkaaGreatDoor
