/- Further steps of soft regions: parts of variables, of lists that came in; calls with three arguments. -/
import Derived.Test.YthpagppipifgeaaGreatDoorZLGSteps
namespace Go.Proofs.YthpagppipifgeaaGreatDoor
open Go.RowKit

theorem isAgg_str : ∀ w : World, (isAgg 9).run Tryz.prog w = .ok false w := Tryz.isAgg9
theorem isAgg_facts : ∀ w : World, (isAgg 25).run Tryz.prog w = .ok false w := Tryz.isAgg25
section
variable {B : Nat} {w0 ws : World} {L : List (Nat × Array Value × TypeId)} {full : List Oper} {a0 : Act} {K : Act → World → Prop} {n : Nat} {l : List Oper} {o : Oper} {Γ : Env}
theorem g_fa {st : TypeId} {x : Operand} {i g k off : Nat} {fs : Array Field} {f : Field} (ho' : o.op = .fieldAddr st x i) (hx : Has ws a0 Γ x (Is (.pointer (some ⟨g, k, none⟩)))) (hu : Tryz.prog.underlying st = some (.struct fs)) (hf : fs[i]? = some f)
    (hs : ∃ s, (Tryz.prog.info? f.type).map (·.size) = some (s + 1)) (ho : k + f.offset = off)
    (h : softG Tryz.prog B w0 ws L full a0 K n l ((o.dst, Is (.pointer (some ⟨g, off, none⟩))) :: Γ)) (hlv : Live full ws a0 Γ o := by first | exact Or.inl rfl | exact live_of rfl rfl (fun _ _ _ h => h)) : softG Tryz.prog B w0 ws L full a0 K (n + 1) (o :: l) Γ :=
  g_val (x := x) (A := Is (.pointer (some ⟨g, k, none⟩))) (stb_is _) (by rw [ho']; exact Array.mem_singleton_self x) hx (fun w e _ _ he => by
    obtain ⟨s, hs⟩ := hs
    have h0 : (sizeOf f.type).run Tryz.prog w = .ok (s + 1) w := by
      cases hq : Tryz.prog.info? f.type with
      | none => simp [hq] at hs
      | some i =>
        have : i.size = s + 1 := by simpa [hq] using hs
        simp [sizeOf, typeInfo, hq, this, Sem.run_bind]
    have h1 : (Instr.fieldAt st (.pointer (some ⟨g, k, none⟩)) i).run Tryz.prog w = .ok (.pointer (some ⟨g, off, none⟩)) w := by
      unfold Instr.fieldAt
      rw [Sem.run_bind, run_underlying hu w]
      simp [Result.andThen, hf, Instr.sureAddr, fieldPlace, Sem.run_bind, h0, addr_add, ho]
    refine ⟨.pointer (some ⟨g, off, none⟩), ?_, rfl⟩
    have he : e x = .pointer (some ⟨g, k, none⟩) := he
    unfold execOp
    simp only [ho', he]
    rw [Sem.run_bind, h1]
    rfl) h hlv
/-- One cell, of what doesn't change. -/
theorem g_cellw {t : TypeId} {x : Operand} {g k : Nat} {v : Value} {R : Prd} (ho : o.op = .load t x) (hx : Has ws a0 Γ x (Is (.pointer (some ⟨g, k, none⟩)))) (hc : ∀ w, Below ws.heap.size ws w → w.cell? ⟨g, k, none⟩ = some v) (hag : ∀ w : World, (isAgg t).run Tryz.prog w = .ok false w)
    (hst : Stb R) (hr : ∀ w, Below ws.heap.size ws w → R w v) (h : softG Tryz.prog B w0 ws L full a0 K n l ((o.dst, R) :: Γ)) (hlv : Live full ws a0 Γ o := by first | exact Or.inl rfl | exact live_of rfl rfl (fun _ _ _ h => h)) : softG Tryz.prog B w0 ws L full a0 K (n + 1) (o :: l) Γ :=
  g_val (x := x) (A := Is (.pointer (some ⟨g, k, none⟩))) hst (by rw [ho]; exact Array.mem_singleton_self x) hx (fun w e _ hb he => by
    have hcell := hc w hb
    have h1 : (Instr.loadAt t (.pointer (some ⟨g, k, none⟩))).run Tryz.prog w = .ok v w := by
      simp [Instr.loadAt, Instr.sureAddr, loadVar, Sem.run_bind, hag, run_load, hcell]
    have he : e x = .pointer (some ⟨g, k, none⟩) := he
    refine ⟨v, ?_, hr w hb⟩
    unfold execOp
    simp only [ho, he]
    rw [Sem.run_bind, h1]
    rfl) h hlv
/-- The place of a part of a list of facts. -/
theorem g_ixf {x y : Operand} {b f len c i : Nat} (ho : o.op = .indexAddr 25 x y) (hx : Has ws a0 Γ x (Is (.slice (some ⟨b, f, none⟩) len c))) (hy : Has ws a0 Γ y (Is (.int .i64 (i : Int)))) (hi : i < len)
    (h : softG Tryz.prog B w0 ws L full a0 K n l ((o.dst, Is (.pointer (some ⟨b, f + i * 2, none⟩))) :: Γ)) (hlv : Live full ws a0 Γ o := by first | exact Or.inl rfl | exact live_of rfl rfl (fun _ _ _ h => h)) : softG Tryz.prog B w0 ws L full a0 K (n + 1) (o :: l) Γ :=
  g_two (x := x) (y := y) (by rw [ho]; exact Array.mem_def.2 (List.Mem.head _)) (by rw [ho]; exact Array.mem_def.2 (List.Mem.tail _ (List.Mem.head _))) hx hy (fun w e h1 h2 => by
    have hr : (Instr.indexAt 25 (.slice (some ⟨b, f, none⟩) len c) (.int .i64 (i : Int))).run Tryz.prog w = .ok (.pointer (some ⟨b, f + i * 2, none⟩)) w := by
      rw [run_indexAt_slice (h := by kernel_rfl), if_pos ⟨by omega, by omega⟩]
      have hs : (sizeOf (Tryz.prog.elem 25)).run Tryz.prog w = .ok 2 w := by kernel_rfl
      rw [hs]
      show Result.ok (Value.pointer (some ((⟨b, f, none⟩ : Addr).add ((i : Int).toNat * 2)))) w = _
      rw [Int.toNat_natCast, Addr.add_lit]
    unfold execOp
    simp only [ho, h1, h2]
    rw [Sem.run_bind, hr]
    rfl) h hlv
theorem g_call3c {f : FuncId} {cv : Value} {x y : Operand} {ats : Array TypeId} {fn : Func} {c : Code} {A A' R : Prd} (ho : o.op = .call { callee := .value (.func f), args := [x, .const cv, y].toArray, argTypes := ats }) (hf : Tryz.prog.funcs[f]? = some fn) (hname : (fn.name == "runtime.NumGoroutine") = false) (hb : fn.body = some c) (hst : Stb R)
    (hx : Has ws a0 Γ x A) (hy : Has ws a0 Γ y A') (hc : ∀ (w : World) (v u : Value), A w v → A' w u → Calls Tryz.prog f #[v, cv, u] w fun en w' => ∃ u, en = .returned u ∧ R w' u ∧ Below w.heap.size w w')
    (h : softG Tryz.prog B w0 ws L full a0 K n l ((o.dst, R) :: Γ)) (hlv : Live full ws a0 Γ o := by first | exact Or.inl rfl | exact live_of rfl rfl (fun _ _ _ h => h)) : softG Tryz.prog B w0 ws L full a0 K (n + 1) (o :: l) Γ :=
  g_call ho hf hname hb hst (fun w e hbl hat => by
    have h1 : e (.const cv) = cv := hat (.const cv) (List.Mem.tail _ (List.Mem.head _))
    have h2 := hc w (e x) (e y) (hx w _ hbl (hat x (List.Mem.head _))) (hy w _ hbl (hat y (List.Mem.tail _ (List.Mem.tail _ (List.Mem.head _)))))
    show Calls Tryz.prog f #[e x, e (.const cv), e y] w _
    rw [h1]
    exact h2) h hlv
end
end Go.Proofs.YthpagppipifgeaaGreatDoor
