/- Further steps of soft regions: policies out of a list. -/
import Derived.Test.YthpagppipifgeaaGreatDoorZLN
import Derived.Test.YthpagppipifgeaaGreatDoorZLLawKit
namespace Go.Proofs.YthpagppipifgeaaGreatDoor
open Go.RowKit

theorem isAgg_pols : ∀ w : World, (isAgg 22).run Tryz.prog w = .ok false w := Tryz.isAgg22
section
variable {B : Nat} {w0 ws : World} {L : List (Nat × Array Value × TypeId)} {full : List Oper} {a0 : Act} {K : Act → World → Prop} {n : Nat} {l : List Oper} {o : Oper} {Γ : Env}
/-- The place of a part of a list of policies. -/
theorem g_ixp {x y : Operand} {b f len c i : Nat} (ho : o.op = .indexAddr 22 x y) (hx : Has ws a0 Γ x (Is (.slice (some ⟨b, f, none⟩) len c))) (hy : Has ws a0 Γ y (Is (.int .i64 (i : Int)))) (hi : i < len)
    (h : softG Tryz.prog B w0 ws L full a0 K n l ((o.dst, Is (.pointer (some ⟨b, f + i * 5, none⟩))) :: Γ)) (hlv : Live full ws a0 Γ o := by first | exact Or.inl rfl | exact live_of rfl rfl (fun _ _ _ h => h)) : softG Tryz.prog B w0 ws L full a0 K (n + 1) (o :: l) Γ :=
  g_two (x := x) (y := y) (by rw [ho]; exact Array.mem_def.2 (List.Mem.head _)) (by rw [ho]; exact Array.mem_def.2 (List.Mem.tail _ (List.Mem.head _))) hx hy (fun w e h1 h2 => by
    have hr : (Instr.indexAt 22 (.slice (some ⟨b, f, none⟩) len c) (.int .i64 (i : Int))).run Tryz.prog w = .ok (.pointer (some ⟨b, f + i * 5, none⟩)) w := by
      rw [run_indexAt_slice (h := by kernel_rfl), if_pos ⟨by omega, by omega⟩]
      have hs : (sizeOf (Tryz.prog.elem 22)).run Tryz.prog w = .ok 5 w := by kernel_rfl
      rw [hs]
      show Result.ok (Value.pointer (some ((⟨b, f, none⟩ : Addr).add ((i : Int).toNat * 5)))) w = _
      rw [Int.toNat_natCast, Addr.add_lit]
    unfold execOp
    simp only [ho, h1, h2]
    rw [Sem.run_bind, hr]
    rfl) h hlv
/-- A policy out of a list. -/
theorem g_ldp {x : Operand} {b k : Nat} {vs : List Value} {R : Prd} (ho : o.op = .load 24 x) (hx : Has ws a0 Γ x (Is (.pointer (some ⟨b, k, none⟩)))) (h5 : vs.length = 5) (hc : ∀ w, Below ws.heap.size ws w → ∀ j v, vs[j]? = some v → w.cell? ⟨b, k + j, none⟩ = some v)
    (hst : Stb R) (hr : ∀ w, Below ws.heap.size ws w → R w (.agg vs.toArray)) (h : softG Tryz.prog B w0 ws L full a0 K n l ((o.dst, R) :: Γ)) (hlv : Live full ws a0 Γ o := by first | exact Or.inl rfl | exact live_of rfl rfl (fun _ _ _ h => h)) : softG Tryz.prog B w0 ws L full a0 K (n + 1) (o :: l) Γ :=
  g_val (x := x) (A := Is (.pointer (some ⟨b, k, none⟩))) hst (by rw [ho]; exact Array.mem_singleton_self x) hx (fun w e _ hb he => by
    have hl : (loadCells ⟨b, k, none⟩ vs.length).run Tryz.prog w = .ok vs.toArray w := run_loadCells_list (P := Tryz.prog) w ⟨b, k, none⟩ vs (fun j v hv => by rw [addr_add]; exact hc w hb j v hv)
    rw [h5] at hl
    have hagg : (isAgg 24).run Tryz.prog w = .ok true w := by
      unfold isAgg
      rw [Sem.run_bind, run_underlying Tryz.underlying24 w]
      rfl
    have h1 : (Instr.loadAt 24 (.pointer (some ⟨b, k, none⟩))).run Tryz.prog w = .ok (.agg vs.toArray) w := by
      simp [Instr.loadAt, Instr.sureAddr, loadVar, Sem.run_bind, hagg, hl]
    refine ⟨.agg vs.toArray, ?_, hr w hb⟩
    have he : e x = .pointer (some ⟨b, k, none⟩) := he
    unfold execOp
    simp only [ho, he]
    rw [Sem.run_bind, h1]
    rfl) h hlv
end
end Go.Proofs.YthpagppipifgeaaGreatDoor
