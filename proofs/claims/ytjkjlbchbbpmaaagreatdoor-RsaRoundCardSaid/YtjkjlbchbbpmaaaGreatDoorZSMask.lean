/- rsa.Mask: the walk. -/
import Derived.Test.YtjkjlbchbbpmaaaGreatDoorZSBlock
import Derived.Test.YtjkjlbchbbpmaaaGreatDoorZR4
namespace Go.Proofs.YtjkjlbchbbpmaaaGreatDoor
open Go.RowKit

def seedB (s : ByteArray) (i : Nat) : ByteArray := s ++ ⟨#[0, 0, 0, UInt8.ofNat i]⟩
/-- The first sums of a seed's mask. -/
def mskL (s : ByteArray) : Nat → List UInt8
  | 0 => []
  | i + 1 => mskL s i ++ (sha (seedB s i)).data.toList
/-- What Mask answers. -/
def MaskR (s : ByteArray) (n : Int) : List UInt8 × Int := if n < 0 ∨ 512 < n then ([], 42) else ((mskL s 16).take n.toNat, 0)
theorem mskL_length (s : ByteArray) : ∀ i, (mskL s i).length = 32 * i
  | 0 => rfl
  | i + 1 => by rw [mskL, List.length_append, mskL_length s i, sha_list]; omega
theorem mskL_pre (s : ByteArray) (i : Nat) : ∀ k, ∃ l, mskL s (i + k) = mskL s i ++ l
  | 0 => ⟨[], by simp⟩
  | k + 1 => by
    obtain ⟨l, hl⟩ := mskL_pre s i k
    exact ⟨l ++ (sha (seedB s (i + k))).data.toList, by rw [← Nat.add_assoc, mskL, hl, List.append_assoc]⟩
theorem mskL_take (s : ByteArray) {i k n : Nat} (h : n ≤ 32 * i) (hk : n ≤ 32 * k) : (mskL s i).take n = (mskL s k).take n := by
  have key : ∀ i k, i ≤ k → n ≤ 32 * i → (mskL s i).take n = (mskL s k).take n := by
    intro i k hik h
    obtain ⟨d, rfl⟩ : ∃ d, k = i + d := ⟨k - i, by omega⟩
    obtain ⟨l, hl⟩ := mskL_pre s i d
    rw [hl, List.take_append_of_le_length (by rw [mskL_length]; exact h)]
  rcases Nat.le_total i k with h1 | h1
  · exact key i k h1 h
  · exact (key k i h1 hk).symm
theorem str_take (l : List UInt8) (k : Nat) : (ByteArray.mk l.toArray).extract 0 k = ⟨(l.take k).toArray⟩ := by
  apply ByteArray.ext
  simp
theorem seedB_size (s : ByteArray) (i : Nat) : (seedB s i).size = s.size + 4 := by
  unfold seedB; rw [ByteArray.size_append]; rfl

theorem run_shr32 {P : Program} {t : TypeId} {x n : Nat} (hn : n ≤ 32) (w : World) : (binOp .shr t (.int .u32 (x : Int)) (.int .u64 (n : Int))).run P w = .ok (.int .u32 ((x / 2 ^ n : Nat) : Int)) w := by
  rw [binOp_shr, shift_shr_u32 _ _ _ (by omega) (by omega), Int.toNat_natCast, Int.natCast_ediv, Int.natCast_pow]
  rfl
theorem run_conv328 (x : Nat) (hx : x < 256) (w : World) : (convert 60 5 (.int .u32 (x : Int))).run Tryz.prog w = .ok (.int .u8 (x : Int)) w := by
  have h := run_convert_int (P := Tryz.prog) w 60 5 .u32 (x : Int) (by rw [Tryz.underlying60]; rfl) (by rw [show Tryz.prog.intKind 5 = .u8 by kernel_rfl]; exact Tryz.underlying5)
  rw [show Tryz.prog.intKind 5 = .u8 by kernel_rfl, IntWalk.u8_in _ (by omega)] at h
  exact h

set_option maxRecDepth 100000 in
set_option maxHeartbeats 3200000 in
theorem Mask_any (s : ByteArray) (n : Int) (w : World) (hs : s.size ≤ 140737488351232) :
    Calls Tryz.prog 16 #[.string s, .int .i64 n] w fun e w' => e = ret2 (MaskR s n).1 (MaskR s n).2 ∧ Below w.heap.size w w' := by
  by_cases h0 : n < 0
  · have hR : MaskR s n = ([], 42) := if_pos (Or.inl h0)
    have HR := Lib.hid hR; clear hR
    go_enter Tryz.func16, Tryz.ntmps16
    go_wp2
    go_ret2
    exact ⟨by rw [HR.out]; rfl, Below.refl _ _⟩
  · by_cases h5 : 512 < n
    · have hR : MaskR s n = ([], 42) := if_pos (Or.inr h5)
      have HR := Lib.hid hR; clear hR
      go_enter Tryz.func16, Tryz.ntmps16
      go_wp2
      go_ret2
      exact ⟨by rw [HR.out]; rfl, Below.refl _ _⟩
    · obtain ⟨k, rfl⟩ := Int.eq_ofNat_of_zero_le (by omega : 0 ≤ n)
      have hk : k ≤ 512 := by omega
      have hR : MaskR s (k : Int) = ((mskL s 16).take k, 0) := by unfold MaskR; rw [if_neg (by omega)]; rfl
      have HR := Lib.hid hR; clear hR h5
      go_enter Tryz.func16, Tryz.ntmps16
      go_upto_region 5 with fail
      go_loopw [6, 7] (fun ov iv wr => ∃ i : Nat, i ≤ 16 ∧ ov = .string ⟨(mskL s i).toArray⟩ ∧ iv = .int .u32 i ∧ Below w.heap.size w wr) (fun _ iv _ => 17 - (intOf iv).toNat)
      case atStart => exact ⟨0, by omega, rfl, rfl, Below.refl _ _⟩
      case round =>
        obtain ⟨i, hi, rfl, rfl, hb⟩ := hrel
        obtain ⟨o, ho⟩ : ∃ o, o = (⟨(mskL s i).toArray⟩ : ByteArray) := ⟨_, rfl⟩
        have hoz : o.size = 32 * i := by rw [ho, str_size, mskL_length]
        have hsz := hb.size
        rw [← ho]
        have HO := Lib.hid ho
        clear ho
        by_cases hlt : 32 * i < k
        · have hdec : decide (o.size < k) = true := by rw [decide_eq_true_eq]; omega
          have h24 : (i : Int) / 16777216 = 0 := by omega
          have h16 : (i : Int) / 65536 = 0 := by omega
          have h8 : (i : Int) / 256 = 0 := by omega
          have hcv : (convert 46 9 (.slice (some ⟨wr.heap.size, 0, none⟩) 4 4)).run Tryz.prog (wr.alloc (.cells #[.int .u8 0, .int .u8 0, .int .u8 0, .int .u8 (i : Int)] 5)) = .ok (.string ⟨#[0, 0, 0, UInt8.ofNat i]⟩) (wr.alloc (.cells #[.int .u8 0, .int .u8 0, .int .u8 0, .int .u8 (i : Int)] 5)) := by
            have h := run_string_buf (buf_new wr [0, 0, 0, UInt8.ofNat i] (by simp))
            simp only [List.map_cons, List.map_nil, List.length_cons, List.length_nil, toNat_ofNat8 i (by omega)] at h
            exact h
          have hcat : ∀ w : World, (Op.stringOp .add s ⟨#[0, 0, 0, UInt8.ofNat i]⟩).run Tryz.prog w = .ok (.string (seedB s i)) w := fun w => run_string_add_sum w s _ (by show s.size + 4 ≤ _; omega)
          obtain ⟨t, ht⟩ : ∃ t, t = sha (seedB s i) := ⟨_, rfl⟩
          have hts : t.size = 32 := by rw [ht]; rfl
          have hsum : ∀ w : World, Calls Tryz.prog 26 #[.string (seedB s i)] w fun e w' => e = .returned (.string t) ∧ Below w.heap.size w w' := fun w => by rw [ht]; exact sum256_any _ (by rw [seedB_size]; omega) w
          have hcat2 : ∀ w : World, (Op.stringOp .add o t).run Tryz.prog w = .ok (.string (o ++ t)) w := fun w => run_string_add_sum w o t (by rw [hts, hoz]; omega)
          have hnext : o ++ t = ⟨(mskL s (i + 1)).toArray⟩ := by
            rw [HO.out, ht, show sha (seedB s i) = ByteArray.mk (sha (seedB s i)).data.toList.toArray from by simp, str_append]; rfl
          have HS := Lib.hid hsum; have HN := Lib.hid hnext
          clear hsum hnext ht hts hoz
          go_wp2_with fail
          refine (HS.out _).mono ?_
          rintro e w2 ⟨rfl, hb2⟩
          have hbel := (hb.alloc hsz _).trans (hb2.mono (Nat.le_trans hsz (by simp)))
          clear hb2 hcv hcat
          go_wp2_with fail
          go_roundw
          case rel => exact ⟨i + 1, by omega, by rw [← HN.out], by go_num, hbel⟩
          case measure => simp [intOf]; omega
        · have hdec : decide (o.size < k) = false := by rw [decide_eq_false_iff_not]; omega
          have hko : k ≤ o.size := by omega
          have hex : o.extract 0 k = ⟨((mskL s 16).take k).toArray⟩ := by
            rw [HO.out, ← mskL_take s (i := i) (by omega) (by omega)]
            exact str_take _ _
          have HX := Lib.hid hex
          clear hex
          go_wp2_with fail
          go_ret2
          exact ⟨by rw [HR.out]; show Ending.returned (.tuple #[.string (o.extract 0 k), .int .i64 0]) = _; rw [HX.out]; rfl, hb⟩
end Go.Proofs.YtjkjlbchbbpmaaaGreatDoor
