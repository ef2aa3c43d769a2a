/- rsa.Block: the walk. -/
import Derived.Test.YtjkjlbchbbpmaaaGreatDoorZH3
import Derived.Test.YtjkjlbchbbpmaaaGreatDoorZK1
namespace Go.Proofs.YtjkjlbchbbpmaaaGreatDoor
open Go.RowKit

def rsInfo : List UInt8 := [48, 49, 48, 13, 6, 9, 96, 134, 72, 1, 101, 3, 4, 2, 1, 5, 0, 4, 32]
def blockL (s : ByteArray) (n : Nat) : List UInt8 := [0, 1] ++ List.replicate (n - 54) 255 ++ (0 :: rsInfo ++ (sha s).data.toList)
/-- What Block answers. -/
def BlockR (s : ByteArray) (n : Int) : List UInt8 × Int := if n < 62 ∨ 512 < n then ([], 42) else (blockL s n.toNat, 0)
theorem sha_list (s : ByteArray) : (sha s).data.toList.length = 32 := rfl
theorem blockL_length (s : ByteArray) (n : Nat) (h : 54 ≤ n) : (blockL s n).length = n := by
  unfold blockL
  simp only [List.length_append, List.length_replicate, List.length_cons, sha_list, rsInfo, List.length_nil]
  omega
theorem repeat_byte (c : UInt8) : ∀ k, Lib.repeatL [c] k = List.replicate k c
  | 0 => rfl
  | k + 1 => by rw [Lib.repeatL, repeat_byte c k]; rfl

set_option maxRecDepth 100000 in
set_option maxHeartbeats 1600000 in
theorem Block_any (s : ByteArray) (n : Int) (w : World) (hs : s.size ≤ 281474976710656) :
    Calls Tryz.prog 14 #[.string s, .int .i64 n] w fun e w' => e = ret2 (BlockR s n).1 (BlockR s n).2 ∧ Below w.heap.size w w' := by
  by_cases h0 : n < 62
  · have hR : BlockR s n = ([], 42) := if_pos (Or.inl h0)
    have HR := Lib.hid hR; clear hR
    go_enter Tryz.func14, Tryz.ntmps14
    go_wp2
    go_ret2
    exact ⟨by rw [HR.out]; rfl, Below.refl _ _⟩
  · by_cases h5 : 512 < n
    · have hR : BlockR s n = ([], 42) := if_pos (Or.inr h5)
      have HR := Lib.hid hR; clear hR
      go_enter Tryz.func14, Tryz.ntmps14
      go_wp2
      go_ret2
      exact ⟨by rw [HR.out]; rfl, Below.refl _ _⟩
    · obtain ⟨k, rfl⟩ := Int.eq_ofNat_of_zero_le (by omega : 0 ≤ n)
      obtain ⟨d, hkd⟩ : ∃ d, k = d + 54 := ⟨k - 54, by omega⟩
      have hR : BlockR s (k : Int) = (blockL s k, 0) := by unfold BlockR; rw [if_neg (by omega)]; rfl
      have hk1 : k ≤ 512 := by omega
      have hk0 : 62 ≤ k := by omega
      obtain ⟨t, ht⟩ : ∃ t, t = sha s := ⟨_, rfl⟩
      have hts : t.size = 32 := by rw [ht]; rfl
      have hsum : ∀ w : World, Calls Tryz.prog 26 #[.string s] w fun e w' => e = .returned (.string t) ∧ Below w.heap.size w w' := fun w => by rw [ht]; exact sum256_any s hs w
      obtain ⟨en, hen⟩ : ∃ en, en = (⟨#[0, 48, 49, 48, 13, 6, 9, 96, 134, 72, 1, 101, 3, 4, 2, 1, 5, 0, 4, 32]⟩ : ByteArray) ++ t := ⟨_, rfl⟩
      have hes : en.size = 52 := by rw [hen, ByteArray.size_append, hts]; rfl
      have hcat1 : ∀ w : World, (Op.stringOp .add (⟨#[0, 48, 49, 48, 13, 6, 9, 96, 134, 72, 1, 101, 3, 4, 2, 1, 5, 0, 4, 32]⟩ : ByteArray) t).run Tryz.prog w = .ok (.string en) w := fun w => by
        rw [hen]; exact run_string_add_sum w _ t (by rw [hts]; decide)
      obtain ⟨sr, hsr⟩ : ∃ sr, sr = ByteArray.mk (Lib.repeatL (ByteArray.mk #[255]).data.toList d).toArray := ⟨_, rfl⟩
      have hzr : sr.size = d := by rw [hsr, str_size, show (ByteArray.mk #[255]).data.toList = [255] from rfl, repeat_byte]; simp
      have hrep : ∀ w : World, Calls Tryz.prog 36 #[.string ⟨#[255]⟩, .int .i64 (d : Int)] w fun e w' => e = .returned (.string sr) ∧ Below w.heap.size w w' := fun w => by
        rw [hsr]; exact Tryz.strings_Repeat ⟨#[255]⟩ d w (by omega) (by show 1 * d ≤ _; omega)
      obtain ⟨u, hu⟩ : ∃ u, u = (⟨#[0, 1]⟩ : ByteArray) ++ sr := ⟨_, rfl⟩
      have hus : u.size = d + 2 := by rw [hu, ByteArray.size_append, hzr, show (ByteArray.mk #[0, 1]).size = 2 from rfl]; omega
      have hcat2 : ∀ w : World, (Op.stringOp .add (⟨#[0, 1]⟩ : ByteArray) sr).run Tryz.prog w = .ok (.string u) w := fun w => by
        rw [hu]; exact run_string_add_sum w _ sr (by rw [hzr, show (ByteArray.mk #[0, 1]).size = 2 from rfl]; omega)
      have hcat3 : ∀ w : World, (Op.stringOp .add u en).run Tryz.prog w = .ok (.string (u ++ en)) w := fun w => run_string_add_sum w u en (by rw [hus, hes]; omega)
      have hall : u ++ en = ⟨(blockL s k).toArray⟩ := by
        rw [hu, hen, hsr, show (ByteArray.mk #[255]).data.toList = [255] from rfl, repeat_byte, ht]
        rw [show (ByteArray.mk #[0, 1]) = ByteArray.mk ([0, 1] : List UInt8).toArray from rfl, str_append]
        rw [show (⟨#[0, 48, 49, 48, 13, 6, 9, 96, 134, 72, 1, 101, 3, 4, 2, 1, 5, 0, 4, 32]⟩ : ByteArray) = ByteArray.mk (0 :: rsInfo).toArray from rfl]
        rw [show sha s = ByteArray.mk (sha s).data.toList.toArray from by simp, str_append, str_append]
        unfold blockL
        rw [show k - 54 = d by omega]
      have HALL := Lib.hid hall; have HR := Lib.hid hR; have HS := Lib.hid hsum; have HRP := Lib.hid hrep
      have HES := Lib.hid hes
      clear hall hR hsum hrep ht hts hen hsr hzr hu hus
      have hes2 : (en.size : Int) = 52 := by omega
      have hd : (k : Int) - 2 - 52 = (d : Int) := by omega
      clear hes hkd h0 h5
      go_enter Tryz.func14, Tryz.ntmps14
      go_wp2_with fail
      refine (HS.out _).mono ?_
      rintro e w2 ⟨rfl, hb2⟩
      go_wp2_with fail
      refine (HRP.out _).mono ?_
      rintro e w3 ⟨rfl, hb3⟩
      go_wp2_with fail
      go_ret2
      exact ⟨by rw [HR.out, HALL.out]; rfl, hb2.trans (hb3.mono hb2.size)⟩
end Go.Proofs.YtjkjlbchbbpmaaaGreatDoor
