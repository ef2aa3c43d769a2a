/- Steps of soft regions. -/
import Derived.Test.YtjkjlbchbbpmaaaGreatDoorZB
import Derived.Test.YtjkjlbchbbpmaaaGreatDoorZS
import Derived.Test.YtjkjlbchbbpmaaaGreatDoorZN5
import Derived.Great.BuildSlice
namespace Go.Proofs.YtjkjlbchbbpmaaaGreatDoor
open Go.RowKit

def Is (u : Value) : Prd := fun _ v => v = u
theorem stb_is (u : Value) : Stb (Is u) := fun _ _ _ _ h => h
theorem str_info : (Tryz.prog.info? 9).map (·.size) = some 1 := by kernel_rfl
theorem isAgg_str : ∀ w : World, (isAgg 9).run Tryz.prog w = .ok false w := Tryz.isAgg9

section
variable {B : Nat} {w0 ws : World} {L : List (Nat × Array Value × TypeId)} {a0 : Act} {K : Act → World → Prop} {n : Nat} {l : List Oper} {o : Oper} {Γ : Env}
def Has (ws : World) (a0 : Act) (Γ : Env) (x : Operand) (R : Prd) : Prop := ∀ w v, Below ws.heap.size ws w → AtE a0 Γ w x v → R w v
theorem s_any {R : Prd} (hst : Stb R) (hop : ∀ (w : World) (e : Operand → Value), Rws B w0 w L → Below ws.heap.size ws w → (∀ x, x ∈ o.op.operands → AtE a0 Γ w x (e x)) → softUpon Tryz.prog w R ((execOp e o).run Tryz.prog w)) (h : softW Tryz.prog B w0 ws L a0 K n l ((o.dst, R) :: Γ)) : softW Tryz.prog B w0 ws L a0 K (n + 1) (o :: l) Γ := ⟨R, hst, hop, h⟩

theorem s_move {x : Operand} {R : Prd} (ho : o.op = .move x) (hst : Stb R) (hx : Has ws a0 Γ x R) (h : softW Tryz.prog B w0 ws L a0 K n l ((o.dst, R) :: Γ)) : softW Tryz.prog B w0 ws L a0 K (n + 1) (o :: l) Γ :=
  s_any hst (fun w e _ hb hat => by
    have h1 := hx w (e x) hb (hat x (by rw [ho]; exact Array.mem_singleton_self x))
    unfold execOp
    simp only [ho]
    exact ⟨h1, Below.refl _ _⟩) h

theorem s_val {x : Operand} {R A : Prd} (hst : Stb R) (hmem : x ∈ o.op.operands) (hx : Has ws a0 Γ x A) (hv : ∀ (w : World) (e : Operand → Value), Rws B w0 w L → Below ws.heap.size ws w → A w (e x) → ∃ v, (execOp e o).run Tryz.prog w = .ok (.value v) w ∧ R w v)
    (h : softW Tryz.prog B w0 ws L a0 K n l ((o.dst, R) :: Γ)) : softW Tryz.prog B w0 ws L a0 K (n + 1) (o :: l) Γ :=
  s_any hst (fun w e hR hb hat => by
    obtain ⟨v, hv1, hv2⟩ := hv w e hR hb (hx w (e x) hb (hat x hmem))
    rw [hv1]
    exact ⟨hv2, Below.refl _ _⟩) h

/-- The address of a field. -/
theorem s_fa {st : TypeId} {x : Operand} {i g k off : Nat} {fs : Array Field} {f : Field} (ho' : o.op = .fieldAddr st x i) (hx : Has ws a0 Γ x (Is (.pointer (some ⟨g, k, none⟩)))) (hu : Tryz.prog.underlying st = some (.struct fs)) (hf : fs[i]? = some f)
    (hs : ∃ s, (Tryz.prog.info? f.type).map (·.size) = some (s + 1)) (ho : k + f.offset = off)
    (h : softW Tryz.prog B w0 ws L a0 K n l ((o.dst, Is (.pointer (some ⟨g, off, none⟩))) :: Γ)) : softW Tryz.prog B w0 ws L a0 K (n + 1) (o :: l) Γ :=
  s_val (x := x) (A := Is (.pointer (some ⟨g, k, none⟩))) (stb_is _) (by rw [ho']; exact Array.mem_singleton_self x) hx (fun w e _ _ he => by
    obtain ⟨s, hs⟩ := hs
    have h0 : (sizeOf f.type).run Tryz.prog w = .ok (s + 1) w := by
      cases hq : Tryz.prog.info? f.type with
      | none => simp [hq] at hs
      | some i =>
        have : i.size = s + 1 := by simpa [hq] using hs
        simp [sizeOf, typeInfo, hq, this, Sem.run_bind]
    have h1 : (Instr.fieldAt st (.pointer (some ⟨g, k, none⟩)) i).run Tryz.prog w = .ok (.pointer (some ⟨g, off, none⟩)) w := by
      unfold Instr.fieldAt
      rw [Sem.run_bind, run_underlying hu w]
      simp [Result.andThen, hf, Instr.sureAddr, fieldPlace, Sem.run_bind, h0, addr_add, ho]
    refine ⟨.pointer (some ⟨g, off, none⟩), ?_, rfl⟩
    have he : e x = .pointer (some ⟨g, k, none⟩) := he
    unfold execOp
    simp only [ho', he]
    rw [Sem.run_bind, h1]
    rfl) h

/-- One cell of a variable. -/
theorem s_cell {t t2 : TypeId} {x : Operand} {g k : Nat} {cs : Array Value} {v : Value} {R : Prd} (ho : o.op = .load t x) (hx : Has ws a0 Γ x (Is (.pointer (some ⟨g, k, none⟩)))) (hm : (g, cs, t2) ∈ L) (hc : cs[k]? = some v) (hag : ∀ w : World, (isAgg t).run Tryz.prog w = .ok false w)
    (hst : Stb R) (hr : ∀ w, Below ws.heap.size ws w → R w v) (h : softW Tryz.prog B w0 ws L a0 K n l ((o.dst, R) :: Γ)) : softW Tryz.prog B w0 ws L a0 K (n + 1) (o :: l) Γ :=
  s_val (x := x) (A := Is (.pointer (some ⟨g, k, none⟩))) hst (by rw [ho]; exact Array.mem_singleton_self x) hx (fun w e hw hb he => by
    have hcell : w.cell? ⟨g, k, none⟩ = some v := (cell_of_row w g k cs t2 _ (hw.row _ hm).2).trans hc
    have h1 : (Instr.loadAt t (.pointer (some ⟨g, k, none⟩))).run Tryz.prog w = .ok v w := by
      simp [Instr.loadAt, Instr.sureAddr, loadVar, Sem.run_bind, hag, run_load, hcell]
    refine ⟨v, ?_, hr w hb⟩
    have he : e x = .pointer (some ⟨g, k, none⟩) := he
    unfold execOp
    simp only [ho, he]
    rw [Sem.run_bind, h1]
    rfl) h
theorem s_lds {t2 : TypeId} {x : Operand} {g k : Nat} {cs : Array Value} {s : ByteArray} (ho : o.op = .load 9 x) (hx : Has ws a0 Γ x (Is (.pointer (some ⟨g, k, none⟩)))) (hm : (g, cs, t2) ∈ L) (hc : cs[k]? = some (.string s))
    (h : softW Tryz.prog B w0 ws L a0 K n l ((o.dst, Is (.string s)) :: Γ)) : softW Tryz.prog B w0 ws L a0 K (n + 1) (o :: l) Γ :=
  s_cell ho hx hm hc isAgg_str (stb_is _) (fun _ _ => rfl) h
def isSA : TypeDesc → Bool
  | .struct _ => true
  | .array _ _ => true
  | _ => false
/-- The whole of a variable. -/
theorem s_ldw {t t2 : TypeId} {x : Operand} {g : Nat} {cs : Array Value} {d : TypeDesc} {R : Prd} (ho : o.op = .load t x) (hx : Has ws a0 Γ x (Is (.pointer (some ⟨g, 0, none⟩)))) (hm : (g, cs, t2) ∈ L)
    (hu : Tryz.prog.underlying t = some d) (hd : isSA d = true) (hi : (Tryz.prog.info? t).map (·.size) = some cs.size)
    (hst : Stb R) (hr : ∀ w, Below ws.heap.size ws w → R w (.agg cs)) (h : softW Tryz.prog B w0 ws L a0 K n l ((o.dst, R) :: Γ)) : softW Tryz.prog B w0 ws L a0 K (n + 1) (o :: l) Γ :=
  s_val (x := x) (A := Is (.pointer (some ⟨g, 0, none⟩))) hst (by rw [ho]; exact Array.mem_singleton_self x) hx (fun w e hw hb he => by
    have h1 := run_load_part (P := Tryz.prog) (w := w) (k := 0) (vs := cs) (hw.row _ hm).2 hu (by cases d <;> first | rfl | cases hd) hi (fun j _ => by rw [Nat.zero_add])
    refine ⟨.agg cs, ?_, hr w hb⟩
    have he : e x = .pointer (some ⟨g, 0, none⟩) := he
    unfold execOp
    simp only [ho, he]
    rw [Sem.run_bind, h1]
    rfl) h
theorem exec_call {f : FuncId} {xs : List Operand} {ats : Array TypeId} {fn : Func} {c : Code} {e : Operand → Value} {w : World} {o : Oper} (ho : o.op = .call { callee := .value (.func f), args := xs.toArray, argTypes := ats }) (hf : Tryz.prog.funcs[f]? = some fn) (hname : (fn.name == "runtime.NumGoroutine") = false) (hb : fn.body = some c) (hfun : e (.func f) = a0.eval (.func f)) :
    (execOp e o).run Tryz.prog w = .ok (.enter f (xs.map e).toArray) w := by
  have h1 : fn.name ≠ "runtime.NumGoroutine" := by simpa using hname
  have e1 : execOp e o = callFunc f (xs.map e).toArray := by
    unfold execOp
    simp only [ho, resolve, hfun]
    show callFunc f (#[] ++ xs.toArray.map e ++ #[]) = _
    simp
  rw [e1]
  simp [callFunc, hf, h1, hb]
/-- A call. -/
theorem s_call {f : FuncId} {xs : List Operand} {ats : Array TypeId} {fn : Func} {c : Code} {R : Prd} (ho : o.op = .call { callee := .value (.func f), args := xs.toArray, argTypes := ats }) (hf : Tryz.prog.funcs[f]? = some fn) (hname : (fn.name == "runtime.NumGoroutine") = false) (hb : fn.body = some c) (hst : Stb R)
    (hc : ∀ (w : World) (e : Operand → Value), Below ws.heap.size ws w → (∀ x, x ∈ xs → AtE a0 Γ w x (e x)) → Calls Tryz.prog f (xs.map e).toArray w fun en w' => ∃ v, en = .returned v ∧ R w' v ∧ Below w.heap.size w w')
    (h : softW Tryz.prog B w0 ws L a0 K n l ((o.dst, R) :: Γ)) : softW Tryz.prog B w0 ws L a0 K (n + 1) (o :: l) Γ :=
  s_any hst (fun w e _ hbl hat => by
    have hmem : ∀ x, x ∈ xs → x ∈ o.op.operands := fun x hx => by
      rw [ho]
      show x ∈ #[Operand.func f] ++ xs.toArray
      exact Array.mem_append.2 (Or.inr (by simpa using hx))
    have hfun : e (.func f) = a0.eval (.func f) := hat (.func f) (by
      rw [ho]
      show Operand.func f ∈ #[Operand.func f] ++ xs.toArray
      exact Array.mem_append.2 (Or.inl (Array.mem_singleton_self _)))
    rw [exec_call (a0 := a0) ho hf hname hb hfun]
    exact ⟨rfl, hc w e hbl fun x hx => hat x (hmem x hx)⟩) h
theorem s_call1 {f : FuncId} {x : Operand} {ats : Array TypeId} {fn : Func} {c : Code} {A R : Prd} (ho : o.op = .call { callee := .value (.func f), args := [x].toArray, argTypes := ats }) (hf : Tryz.prog.funcs[f]? = some fn) (hname : (fn.name == "runtime.NumGoroutine") = false) (hb : fn.body = some c) (hst : Stb R)
    (hx : Has ws a0 Γ x A) (hc : ∀ (w : World) (v : Value), A w v → Calls Tryz.prog f #[v] w fun en w' => ∃ u, en = .returned u ∧ R w' u ∧ Below w.heap.size w w')
    (h : softW Tryz.prog B w0 ws L a0 K n l ((o.dst, R) :: Γ)) : softW Tryz.prog B w0 ws L a0 K (n + 1) (o :: l) Γ :=
  s_call ho hf hname hb hst (fun w e hbl hat => hc w (e x) (hx w _ hbl (hat x (List.Mem.head _)))) h
theorem s_call2 {f : FuncId} {x y : Operand} {ats : Array TypeId} {fn : Func} {c : Code} {A A' R : Prd} (ho : o.op = .call { callee := .value (.func f), args := [x, y].toArray, argTypes := ats }) (hf : Tryz.prog.funcs[f]? = some fn) (hname : (fn.name == "runtime.NumGoroutine") = false) (hb : fn.body = some c) (hst : Stb R)
    (hx : Has ws a0 Γ x A) (hy : Has ws a0 Γ y A') (hc : ∀ (w : World) (v u : Value), A w v → A' w u → Calls Tryz.prog f #[v, u] w fun en w' => ∃ u, en = .returned u ∧ R w' u ∧ Below w.heap.size w w')
    (h : softW Tryz.prog B w0 ws L a0 K n l ((o.dst, R) :: Γ)) : softW Tryz.prog B w0 ws L a0 K (n + 1) (o :: l) Γ :=
  s_call ho hf hname hb hst (fun w e hbl hat => hc w (e x) (e y) (hx w _ hbl (hat x (List.Mem.head _))) (hy w _ hbl (hat y (List.Mem.tail _ (List.Mem.head _))))) h
theorem s_callc {f : FuncId} {cv : Value} {y : Operand} {ats : Array TypeId} {fn : Func} {c : Code} {A' R : Prd} (ho : o.op = .call { callee := .value (.func f), args := [.const cv, y].toArray, argTypes := ats }) (hf : Tryz.prog.funcs[f]? = some fn) (hname : (fn.name == "runtime.NumGoroutine") = false) (hb : fn.body = some c) (hst : Stb R)
    (hy : Has ws a0 Γ y A') (hc : ∀ (w : World) (u : Value), A' w u → Calls Tryz.prog f #[cv, u] w fun en w' => ∃ u, en = .returned u ∧ R w' u ∧ Below w.heap.size w w')
    (h : softW Tryz.prog B w0 ws L a0 K n l ((o.dst, R) :: Γ)) : softW Tryz.prog B w0 ws L a0 K (n + 1) (o :: l) Γ :=
  s_call ho hf hname hb hst (fun w e hbl hat => by
    have h1 : e (.const cv) = cv := hat (.const cv) (List.Mem.head _)
    have h2 := hc w (e y) (hy w _ hbl (hat y (List.Mem.tail _ (List.Mem.head _))))
    rw [← h1] at h2
    show Calls Tryz.prog f #[e (.const cv), e y] w _
    rw [h1] at h2 ⊢
    exact h2) h


theorem s_conv {t1 t2 : TypeId} {x : Operand} {v r : Value} (ho : o.op = .convert t1 t2 x) (hx : Has ws a0 Γ x (Is v)) (hc : ∀ w, Below ws.heap.size ws w → (convert t1 t2 v).run Tryz.prog w = .ok r w)
    (h : softW Tryz.prog B w0 ws L a0 K n l ((o.dst, Is r) :: Γ)) : softW Tryz.prog B w0 ws L a0 K (n + 1) (o :: l) Γ :=
  s_val (x := x) (A := Is v) (stb_is _) (by rw [ho]; exact Array.mem_singleton_self x) hx (fun w e _ hb he => by
    have h1 : e x = v := he
    refine ⟨r, ?_, rfl⟩
    unfold execOp
    simp only [ho, h1]
    rw [Sem.run_bind, hc w hb]
    rfl) h
theorem s_cat {t t2 : TypeId} {x y : Operand} {a b : ByteArray} (ho : o.op = .binOp .add t x y t2) (hx : Has ws a0 Γ x (Is (.string a))) (hy : Has ws a0 Γ y (Is (.string b))) (hs : a.size + b.size ≤ 9223372036854775807)
    (h : softW Tryz.prog B w0 ws L a0 K n l ((o.dst, Is (.string (a ++ b))) :: Γ)) : softW Tryz.prog B w0 ws L a0 K (n + 1) (o :: l) Γ :=
  s_any (stb_is _) (fun w e _ hb hat => by
    have h1 : e x = .string a := hx w _ hb (hat x (by rw [ho]; exact Array.mem_def.2 (List.Mem.head _)))
    have h2 : e y = .string b := hy w _ hb (hat y (by rw [ho]; exact Array.mem_def.2 (List.Mem.tail _ (List.Mem.head _))))
    have h3 := run_string_add_sum (P := Tryz.prog) w a b hs
    have h4 : (execOp e o).run Tryz.prog w = .ok (.value (.string (a ++ b))) w := by
      unfold execOp
      simp only [ho, h1, h2]
      simp [go_sem, binOp, h3]
    rw [h4]
    exact ⟨rfl, Below.refl _ _⟩) h
end
end Go.Proofs.YtjkjlbchbbpmaaaGreatDoor
