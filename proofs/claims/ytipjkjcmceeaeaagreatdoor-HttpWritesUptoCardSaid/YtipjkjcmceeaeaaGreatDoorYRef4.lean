/- ostiaryref15.Num, cut: the walks. -/
import Derived.Test.YtipjkjcmceeaeaaGreatDoorYRef3
namespace Go.Proofs.YtipjkjcmceeaeaaGreatDoor
open Go.RowKit

theorem conv_one (x : UInt8) (w : World) : (convert 44 9 (.slice (some ⟨w.heap.size, 0, none⟩) 1 1)).run Tryz.prog (w.alloc (.cells #[.int .u8 (x.toNat : Nat)] 5)) = .ok (.string (bs [x])) (w.alloc (.cells #[.int .u8 (x.toNat : Nat)] 5)) := by
  have ho : OwnB w.heap.size (w.alloc (.cells #[.int .u8 (x.toNat : Nat)] 5)) (.slice (some ⟨w.heap.size, 0, none⟩) 1 1) [x] :=
    ⟨rfl, Or.inr ⟨w.heap.size, 1, _, rfl, Nat.le_refl _, heap_alloc_new _ _, Nat.le_refl _, by decide, rfl, rfl⟩⟩
  exact own_text ho
set_option maxRecDepth 100000 in
set_option maxHeartbeats 4000000 in
theorem Num_any (n : Nat) (hn : n ≤ 1000000000) (w : World) : Calls Tryz.prog 50 #[.int .i64 (n : Nat)] w (RetS (bs (numS n)) w) := by
  have hc1 := conv_one
  go_enter Tryz.func50, Tryz.ntmps50
  go_upto_region 2 with fail
  go_loopg [0, 3] (n + 1) (fun gg s0 s3 wr => ∃ (k : Nat) (acc : List UInt8) (mm : Nat), k ≤ n ∧ gg = mm ∧ Aside (mm = k + (if acc = [] then 1 else 0)) ∧ s0 = .int .i64 k ∧ s3 = .string (bs acc) ∧ Aside (numS n = (if k = 0 ∧ acc ≠ [] then [] else numS k) ++ acc) ∧ Aside (Below w.heap.size w wr) ∧ Aside (acc.length + k + (if acc = [] then 1 else 0) ≤ n + 1))
  case atStart => exact ⟨n, [], n + 1, Nat.le_refl _, rfl, rfl, rfl, rfl, (show numS n = (if n = 0 ∧ ([] : List UInt8) ≠ [] then [] else numS n) ++ [] by simp), Below.refl _ _, (show 0 + n + (if ([] : List UInt8) = [] then 1 else 0) ≤ n + 1 by simp)⟩
  case round =>
    obtain ⟨k, acc, mm, hk, rfl, HM, rfl, rfl, HA, HB, HC⟩ := hrel
    by_cases hend : k = 0 ∧ acc ≠ []
    · obtain ⟨rfl, hne⟩ := hend
      have hq : ((bs acc).toList == []) = false := by rw [bs_list]; simpa using hne
      have HR : Hid (numS n = acc) := Lib.hid (by rw [HA.out, if_pos ⟨rfl, hne⟩]; rfl)
      clear hne HA
      go_wp2_with fail
      go_ret
      rw [HR.out]
      exact ⟨rfl, HB.out⟩
    · have hst := num_step k
      obtain ⟨d, hd⟩ : ∃ d, d = UInt8.ofNat (48 + k % 10) := ⟨_, rfl⟩
      rw [← hd] at hst
      have hdn : (d.toNat : Int) = 48 + (k : Int) % 10 := by rw [hd, UInt8.toNat_ofNat']; omega
      have HA2 : Hid (numS n = (if k / 10 = 0 ∧ d :: acc ≠ [] then [] else numS (k / 10)) ++ (d :: acc)) := Lib.hid (by
        rw [HA.out, if_neg hend, hst]
        by_cases h0 : k / 10 = 0
        · rw [if_pos h0, if_pos ⟨h0, by simp⟩]; rfl
        · rw [if_neg h0, if_neg (by rintro ⟨h, _⟩; exact h0 h)]; simp)
      have hrem : Int.tmod (k : Int) 10 = ((k % 10 : Nat) : Int) := rfl
      have hquo : Int.tdiv (k : Int) 10 = ((k / 10 : Nat) : Int) := rfl
      have HC2 : Hid ((d :: acc).length + k / 10 + (if d :: acc = [] then 1 else 0) ≤ n + 1) := Lib.hid (by
        have := HC.out
        rw [if_neg (by simp), List.length_cons]
        by_cases he : acc = []
        · subst he; simp at this ⊢; omega
        · rw [if_neg he] at this
          have : k ≠ 0 := fun h => hend ⟨h, he⟩
          omega)
      have HMZ : Hid (k / 10 < gk) := Lib.hid (by
        rw [HM.out]
        by_cases he : acc = []
        · rw [if_pos he]; omega
        · rw [if_neg he]
          have : k ≠ 0 := fun h => hend ⟨h, he⟩
          omega)
      have happ : bs [d] ++ bs acc = bs (d :: acc) := bs_app2 [d] acc
      have hc2 : ∀ w : World, (convert 44 9 (.slice (some ⟨w.heap.size, 0, none⟩) 1 1)).run Tryz.prog (w.alloc (.cells #[.int .u8 (d.toNat : Nat)] 5)) = .ok (.string (bs [d])) (w.alloc (.cells #[.int .u8 (d.toNat : Nat)] 5)) := hc1 d
      have hk64 : k ≤ 9223372036854775807 := by omega
      rw [hdn] at hc2
      have hcond : (0 : Int) < (k : Int) ∨ (¬ (0 : Int) < (k : Int) ∧ ((bs acc).toList == []) = true) := by
        by_cases h0 : 0 < k
        · left; omega
        · right
          refine ⟨by omega, ?_⟩
          have : acc = [] := Classical.byContradiction fun h => hend ⟨by omega, h⟩
          rw [this, bs_list]; rfl
      have hz : (bs [d]).size + (bs acc).size ≤ 9223372036854775807 := by
        have h1 := HC.out
        rw [bs_size, bs_size]
        simp only [List.length_cons, List.length_nil]
        have : acc.length ≤ n + 1 := by omega
        omega
      clear hend hst hd HA hc1 hdn HM
      rcases hcond with h0 | ⟨h0, hq⟩
      · go_wp2_with fail
        go_roundg (k / 10)
        case measure => exact HMZ.out
        case rel => exact ⟨k / 10, d :: acc, k / 10, by omega, rfl, (show k / 10 = k / 10 + (if d :: acc = [] then 1 else 0) by simp), by first | rfl | go_num, by first | rfl | rw [happ], HA2.out, HB.out.alloc HB.out.size _, HC2.out⟩
      · obtain rfl : k = 0 := by omega
        rw [show (48 + ((0 : Nat) : Int) % 10) = 48 from rfl] at hc2
        go_wp2_with fail
        go_roundg (0 / 10)
        case measure => exact HMZ.out
        case rel => exact ⟨0 / 10, d :: acc, 0 / 10, by omega, rfl, (show 0 / 10 = 0 / 10 + (if d :: acc = [] then 1 else 0) by simp), by first | rfl | go_num, by first | rfl | rw [happ], HA2.out, HB.out.alloc HB.out.size _, HC2.out⟩
end Go.Proofs.YtipjkjcmceeaeaaGreatDoor
