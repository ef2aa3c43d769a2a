/- Texts of noughts: string(make([]byte, n)). -/
import Derived.Test.YtbmhiejggkdnkaaDoorLawKit2
namespace Go.Proofs.YtbmhiejggkdnkaaDoor
open Go.RowKit

/-- So many bytes 0. -/
def zs (n : Nat) : ByteArray := ⟨(List.replicate n (0 : UInt8)).toArray⟩
theorem zs_size (n : Nat) : (zs n).size = n := by unfold zs; rw [str_size]; simp

set_option maxRecDepth 100000 in
theorem run_string_zeros {w : World} {g n : Nat} (h : Own w .u8 5 g n (fun _ => 0)) :
    (convert 31 9 (.slice (some ⟨g, 0, none⟩) n n)).run Tryd.prog w = .ok (.string (zs n)) w := by
  have hr := run_convert_bytes_arg w 31 5 Tryd.underlying31 Tryd.underlying5 g 0 n n (List.replicate n (0 : Int)) (by simp) (fun i hi => by
      have hi' : i < n := by simpa using hi
      rw [Nat.zero_add, h.cell i hi']
      simp [List.getD, hi']) 9 Tryd.underlying9
  rw [hr]
  congr 2
  unfold strOfNums zs
  simp

theorem bv_zeros : ∀ n : Nat, bv (List.replicate n 0) = 0
  | 0 => rfl
  | n + 1 => by
    rw [List.replicate_succ, bv_cons, bv_zeros n]
    simp
theorem bv_app (l m : List UInt8) : bv (l ++ m) = bv l * 256 ^ m.length + bv m := by
  unfold bv
  rw [List.foldl_append]
  exact bv_acc m _
theorem nv_zs (a : ByteArray) (n : Nat) : nv (a ++ zs n) = nv a * 256 ^ n := by
  unfold nv zs
  have e : (a ++ (⟨(List.replicate n (0 : UInt8)).toArray⟩ : ByteArray)).data.toList = a.data.toList ++ List.replicate n 0 := by simp
  rw [e, bv_app, bv_zeros]
  simp
theorem nv_one_zs (n : Nat) : nv (⟨#[1]⟩ ++ zs n) = 256 ^ n := by
  rw [nv_zs]
  have : nv ⟨#[1]⟩ = 1 := rfl
  rw [this, Nat.one_mul]
theorem app_size (a b : ByteArray) : (a ++ b).size = a.size + b.size := by simp
end Go.Proofs.YtbmhiejggkdnkaaDoor
