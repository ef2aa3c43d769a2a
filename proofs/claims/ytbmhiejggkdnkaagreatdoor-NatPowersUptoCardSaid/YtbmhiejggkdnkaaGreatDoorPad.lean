/- Pad: the walk. -/
import Derived.Test.YtbmhiejggkdnkaaGreatDoorText2
namespace Go.Proofs.YtbmhiejggkdnkaaGreatDoor
open Go.RowKit

/-- What Pad answers. -/
def PadR (a : ByteArray) (n : Int) : List UInt8 × Int :=
  if n < 0 ∨ 512 < n ∨ n < (Dg.len 256 (nv a) : Int) then ([], 35) else (List.replicate (n.toNat - Dg.len 256 (nv a)) 0 ++ fm (nv a), 0)

theorem repeat_one (c : Nat) : Lib.repeatL [0] c = List.replicate c 0 := by
  induction c with
  | zero => rfl
  | succ c ih => rw [Lib.repeatL, ih]; rfl

theorem str_append (l m : List UInt8) : (ByteArray.mk l.toArray) ++ (ByteArray.mk m.toArray) = ByteArray.mk (l ++ m).toArray := by
  apply ByteArray.ext
  simp

set_option maxRecDepth 100000 in
set_option maxHeartbeats 1600000 in
theorem Pad_any (a : ByteArray) (n : Int) (w : World) (ha : a.size ≤ 9223372036854775807) :
    Calls Tryz.prog 28 #[.string a, .int .i64 n] w fun e w' => e = ret2 (PadR a n).1 (PadR a n).2 ∧ Below w.heap.size w w' := by
  obtain ⟨la, hla⟩ : ∃ l, l = fm (nv a) := ⟨_, rfl⟩
  have HLA := Lib.hid hla
  obtain ⟨sa, hsa⟩ : ∃ s, s = ByteArray.mk la.toArray := ⟨_, rfl⟩
  have ea : fm (bv a.data.toList) = la := HLA.out.symm
  have ca : ∀ w : World, Calls Tryz.prog 22 #[.string a] w fun e w' => e = .returned (.string sa) ∧ w = w' := fun w => by rw [hsa, ← ea]; exact Trim_any a w
  have CA := Lib.hid ca
  have hzl : la.length = Dg.len 256 (nv a) := by rw [hla, fm_length]
  obtain ⟨L, hL⟩ : ∃ L, L = Dg.len 256 (nv a) := ⟨_, rfl⟩
  have hz : sa.size = L := by rw [hsa, hL, ← hzl]; exact str_size la
  have hLs : L ≤ a.size := by
    rw [hL]
    exact (Dg.len_le_iff (by omega) _ _).2 (by
      have h := bv_lt a.data.toList
      have e : a.data.toList.length = a.size := by simp
      rw [e] at h; exact h)
  have HPD := Lib.hid (show PadR a n = if n < 0 ∨ 512 < n ∨ n < (L : Int) then ([], 35) else (List.replicate (n.toNat - L) 0 ++ la, 0) by unfold PadR; rw [hL, hla])
  have HSA := Lib.hid hsa
  clear hla ca ea hsa hzl hL
  by_cases h0 : n < 0
  · have hR : PadR a n = ([], 35) := by rw [HPD.out, if_pos (Or.inl h0)]
    have HR := Lib.hid hR; clear hR
    go_enter Tryz.func28, Tryz.ntmps28
    go_wp2_with (go_at_call 22; refine (CA.out _).mono ?_; rintro e w' ⟨rfl, rfl⟩)
    go_ret2
    exact ⟨by rw [HR.out]; rfl, Below.refl _ _⟩
  · by_cases h5 : 512 < n
    · have hR : PadR a n = ([], 35) := by rw [HPD.out, if_pos (Or.inr (Or.inl h5))]
      have HR := Lib.hid hR; clear hR
      go_enter Tryz.func28, Tryz.ntmps28
      go_wp2_with (go_at_call 22; refine (CA.out _).mono ?_; rintro e w' ⟨rfl, rfl⟩)
      go_ret2
      exact ⟨by rw [HR.out]; rfl, Below.refl _ _⟩
    · by_cases hl : n < (L : Int)
      · have hR : PadR a n = ([], 35) := by rw [HPD.out, if_pos (Or.inr (Or.inr hl))]
        have HR := Lib.hid hR; clear hR
        go_enter Tryz.func28, Tryz.ntmps28
        go_wp2_with (go_at_call 22; refine (CA.out _).mono ?_; rintro e w' ⟨rfl, rfl⟩)
        go_ret2
        exact ⟨by rw [HR.out]; rfl, Below.refl _ _⟩
      · obtain ⟨k, rfl⟩ := Int.eq_ofNat_of_zero_le (by omega : 0 ≤ n)
        have hR : PadR a k = (List.replicate (k - L) 0 ++ la, 0) := by rw [HPD.out, if_neg (by omega)]; simp
        have HR := Lib.hid hR; clear hR
        obtain ⟨d, rfl⟩ : ∃ d, k = L + d := ⟨k - L, by omega⟩
        have hd : (L : Int) + (d : Int) - (L : Int) = (d : Nat) := by omega
        go_enter Tryz.func28, Tryz.ntmps28
        go_wp2_with (go_at_call 22; refine (CA.out _).mono ?_; rintro e w' ⟨rfl, rfl⟩)
        refine (Tryz.strings_Repeat ⟨#[0]⟩ d _ (by omega) (by show 1 * d ≤ _; omega)).mono ?_
        rintro e w2 ⟨rfl, hb2⟩
        obtain ⟨sr, hsr⟩ : ∃ s, s = ByteArray.mk (Lib.repeatL (ByteArray.mk #[0]).data.toList d).toArray := ⟨_, rfl⟩
        rw [← hsr]
        have hzr : sr.size = d := by rw [hsr, str_size, show (ByteArray.mk #[0]).data.toList = [0] from rfl, repeat_one]; simp
        have hsum : sr ++ sa = ⟨(List.replicate d 0 ++ la).toArray⟩ := by
          rw [hsr, HSA.out, str_append, show (ByteArray.mk #[0]).data.toList = [0] from rfl, repeat_one]
        have HSUM := Lib.hid hsum
        have hcat : ∀ w : World, (Op.stringOp .add sr sa).run Tryz.prog w = .ok (.string (sr ++ sa)) w := fun w => run_string_add_sum w sr sa (by omega)
        clear hsum hsr
        go_wp2_with fail
        go_ret2
        exact ⟨by rw [HR.out, HSUM.out, Nat.add_sub_cancel_left]; rfl, hb2⟩
end Go.Proofs.YtbmhiejggkdnkaaGreatDoor
