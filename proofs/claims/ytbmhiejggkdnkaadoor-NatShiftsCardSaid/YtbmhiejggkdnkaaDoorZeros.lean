/- Texts of noughts: string(make([]byte, n)). -/
import Derived.Test.YtbmhiejggkdnkaaDoorLawKit2
namespace Go.Proofs.YtbmhiejggkdnkaaDoor
open Go.RowKit

/-- So many bytes 0. -/
def zs (n : Nat) : ByteArray := ⟨(List.replicate n (0 : UInt8)).toArray⟩
theorem zs_size (n : Nat) : (zs n).size = n := by unfold zs; rw [str_size]; simp

set_option maxRecDepth 100000 in
theorem run_string_zeros {w : World} {g n : Nat} (h : Own w .u8 5 g n (fun _ => 0)) :
    (convert 31 9 (.slice (some ⟨g, 0, none⟩) n n)).run Tryd.prog w = .ok (.string (zs n)) w := by
  have hr := run_convert_bytes_arg w 31 5 Tryd.underlying31 Tryd.underlying5 g 0 n n (List.replicate n (0 : Int)) (by simp) (fun i hi => by
      have hi' : i < n := by simpa using hi
      rw [Nat.zero_add, h.cell i hi']
      simp [List.getD, hi']) 9 Tryd.underlying9
  rw [hr]
  congr 2
  unfold strOfNums zs
  simp

theorem bv_zeros : ∀ n : Nat, bv (List.replicate n 0) = 0
  | 0 => rfl
  | n + 1 => by
    rw [List.replicate_succ, bv_cons, bv_zeros n]
    simp
theorem bv_app (l m : List UInt8) : bv (l ++ m) = bv l * 256 ^ m.length + bv m := by
  unfold bv
  rw [List.foldl_append]
  exact bv_acc m _
theorem nv_zs (a : ByteArray) (n : Nat) : nv (a ++ zs n) = nv a * 256 ^ n := by
  unfold nv zs
  have e : (a ++ (⟨(List.replicate n (0 : UInt8)).toArray⟩ : ByteArray)).data.toList = a.data.toList ++ List.replicate n 0 := by simp
  rw [e, bv_app, bv_zeros]
  simp
theorem nv_one_zs (n : Nat) : nv (⟨#[1]⟩ ++ zs n) = 256 ^ n := by
  rw [nv_zs]
  have : nv ⟨#[1]⟩ = 1 := rfl
  rw [this, Nat.one_mul]
/-- 400 bytes 0, as 'make' lays them. -/
def z400 : Array Value := madeCells #[.int .u8 0] 400
set_option maxRecDepth 100000 in
theorem run_make400 (u : World) : (Instr.makeSlice 31 (.int .i64 400) (.int .i64 400)).run Tryd.prog u = .ok (.slice (some ⟨u.heap.size, 0, none⟩) 400 400) (u.alloc (.cells z400 5)) := by
  obtain ⟨i0, hi, hz0, hz1, hz2⟩ := info_parts info8
  have h := run_make (P := Tryd.prog) u 31 5 i0 (.int .u8 0) Tryd.underlying31 hi hz0 .i64 .i64 400 400 (by omega) (Int.le_refl _) (by rw [hz2]; omega) (by omega)
  simpa [hz1, Value.cells, z400] using h
set_option maxRecDepth 100000 in
theorem run_string400 (u : World) (g : Nat) (h : u.heap[g]? = some (.cells z400 5 (0, 0))) :
    (convert 31 9 (.slice (some ⟨g, 0, none⟩) 400 400)).run Tryd.prog u = .ok (.string (zs 400)) u := by
  refine run_string_zeros (g := g) (n := 400) ⟨z400, h, ?_, by omega, fun j hj => ?_⟩
  · simp [z400, madeCells]
  · rw [← Array.getElem?_toList, z400, toList_madeCells_one, List.getElem?_replicate, if_pos hj]; rfl
set_option maxRecDepth 100000 in
theorem run_string2 (u : World) (g : Nat) (x y : UInt8) (a b : Int) (hx : ((x.toNat : Nat) : Int) = a) (hy : ((y.toNat : Nat) : Int) = b) (h0 : u.cell? ⟨g, 0, none⟩ = some (.int .u8 a)) (h1 : u.cell? ⟨g, 1, none⟩ = some (.int .u8 b)) :
    (convert 31 9 (.slice (some ⟨g, 0, none⟩) 2 2)).run Tryd.prog u = .ok (.string ⟨#[x, y]⟩) u := by
  have hr := run_convert_bytes_arg u 31 5 Tryd.underlying31 Tryd.underlying5 g 0 2 2 [a, b] rfl (fun i hi => by
      have hi2 : i < 2 := hi
      have h2 : i = 0 ∨ i = 1 := by omega
      rcases h2 with rfl | rfl
      · exact h0
      · exact h1) 9 Tryd.underlying9
  rw [hr, ← hx, ← hy]
  congr 2
  unfold strOfNums
  simp
theorem app_size (a b : ByteArray) : (a ++ b).size = a.size + b.size := by simp
end Go.Proofs.YtbmhiejggkdnkaaDoor
