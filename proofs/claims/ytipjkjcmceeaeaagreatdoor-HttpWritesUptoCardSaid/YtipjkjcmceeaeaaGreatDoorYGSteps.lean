/- Steps of soft regions with guarded operations (out of ec's texts, for the seat of Policy). -/
import Derived.Test.YtipjkjcmceeaeaaGreatDoorYSoftG
namespace Go.Proofs.YtipjkjcmceeaeaaGreatDoor
open Go.RowKit

def Is (u : Value) : Prd := fun _ v => v = u
theorem stb_is (u : Value) : Stb (Is u) := fun _ _ _ _ h => h
def Has (ws : World) (a0 : Act) (Γ : Env) (x : Operand) (R : Prd) : Prop := ∀ w v, Below ws.heap.size ws w → AtE a0 Γ w x v → R w v
section
variable {P : Program} {w : World}
theorem addr_add (b o j : Nat) : (⟨b, o, none⟩ : Addr).add j = ⟨b, o + j, none⟩ := by rw [Addr.add_lit]
/-- A struct or an array out of a variable, or out of a part of one. -/
theorem run_load_part {g k : Nat} {cs vs : Array Value} {t t2 : TypeId} {d : TypeDesc} (hg : w.heap[g]? = some (.cells cs t2 (0, 0)))
    (hu : P.underlying t = some d) (hd : (match d with | .struct _ | .array _ _ => true | _ => false) = true) (hi : (P.info? t).map (·.size) = some vs.size) (hv : ∀ j, j < vs.size → cs[k + j]? = vs[j]?) :
    (Instr.loadAt t (.pointer (some ⟨g, k, none⟩))).run P w = .ok (.agg vs) w := by
  have hl : (loadCells ⟨g, k, none⟩ vs.toList.length).run P w = .ok vs.toList.toArray w :=
    run_loadCells_list (P := P) w ⟨g, k, none⟩ vs.toList (fun j v hv' => by
      have hj : j < vs.size := by
        have := (List.getElem?_eq_some_iff.1 hv').1
        simpa using this
      rw [addr_add, cell_of_row w g (k + j) cs t2 _ hg, hv j hj]
      simpa using hv')
  have hagg : (isAgg t).run P w = .ok true w := by
    unfold isAgg
    rw [Sem.run_bind, run_underlying hu w]
    cases d <;> simp_all
  cases hq : P.info? t with
  | none => simp [hq] at hi
  | some i =>
    have hs : i.size = vs.size := by simpa [hq] using hi
    simp only [Array.length_toList, Array.toArray_toList] at hl
    simp [Instr.loadAt, Instr.sureAddr, loadVar, Sem.run_bind, hagg, sizeOf, typeInfo, hq, hs, hl]
end
def isSA : TypeDesc → Bool
  | .struct _ => true
  | .array _ _ => true
  | _ => false
section
variable {B : Nat} {w0 ws : World} {L : List (Nat × Array Value × TypeId)} {full : List Oper} {a0 : Act} {K : Act → World → Prop} {n : Nat} {l : List Oper} {o : Oper} {Γ : Env}
theorem live_of {g tg : Nat} {want : Bool} (hds : o.dst.isSome = true) (hg : o.guard = some (g, want)) (htg : (full[g]?).bind (·.dst) = some tg) (hv : ∀ w v, Below ws.heap.size ws w → AtE a0 Γ w (.tmp tg) v → v = .bool want) : Live full ws a0 Γ o := by
  refine ⟨hds, Or.inr ?_⟩
  unfold GuardIs
  rw [hg]
  exact ⟨tg, want, htg, rfl, hv⟩
theorem dead_of {g tg : Nat} {b want : Bool} (hg : o.guard = some (g, want)) (htg : (full[g]?).bind (·.dst) = some tg) (hv : ∀ w v, Below ws.heap.size ws w → AtE a0 Γ w (.tmp tg) v → v = .bool b) (hne : (b == want) = false) : Dead full ws a0 Γ o := by
  unfold Dead GuardIs
  rw [hg]
  exact ⟨tg, b, htg, hne, hv⟩
theorem g_any {R : Prd} (hst : Stb R) (hop : ∀ (w : World) (e : Operand → Value), Rws B w0 w L → Below ws.heap.size ws w → (∀ x, x ∈ o.op.operands → AtE a0 Γ w x (e x)) → softUpon Tryz.prog w R ((execOp e o).run Tryz.prog w)) (h : softG Tryz.prog B w0 ws L full a0 K n l ((o.dst, R) :: Γ))
    (hlv : Live full ws a0 Γ o := by first | exact ⟨rfl, Or.inl rfl⟩ | exact live_of rfl rfl rfl (fun _ _ _ h => h)) : softG Tryz.prog B w0 ws L full a0 K (n + 1) (o :: l) Γ := ⟨R, hst, Or.inl ⟨hlv, hop⟩, h⟩
/-- It is passed over. -/
theorem g_dead (hd : Dead full ws a0 Γ o) (h : softG Tryz.prog B w0 ws L full a0 K n l ((o.dst, Is undef) :: Γ)) : softG Tryz.prog B w0 ws L full a0 K (n + 1) (o :: l) Γ := ⟨Is undef, stb_is _, Or.inr (Or.inl ⟨hd, fun _ => rfl⟩), h⟩
/-- A whole struct of one's own is stored as it stands there. -/
theorem g_same {t t2 : TypeId} {x y : Operand} {g : Nat} {cs : Array Value} (ho : o.op = .store t x y) (hd : o.dst = none) (hgd : o.guard = none) (hx : Has ws a0 Γ x (Is (.pointer (some ⟨g, 0, none⟩)))) (hy : Has ws a0 Γ y (Is (.agg cs))) (hm : (g, cs, t2) ∈ L)
    (hi : (Tryz.prog.info? t).map (·.size) = some cs.size) (h1 : cs.all (·.oneCell') = true)
    (h : softG Tryz.prog B w0 ws L full a0 K n l ((o.dst, Is undef) :: Γ)) : softG Tryz.prog B w0 ws L full a0 K (n + 1) (o :: l) Γ :=
  ⟨Is undef, stb_is _, Or.inr (Or.inr ⟨⟨hgd, hd, fun w e hR hb hat => by
    have hx2 : e x = .pointer (some ⟨g, 0, none⟩) := hx w (e x) hb (hat x (by rw [ho]; exact Array.mem_def.2 (List.Mem.head _)))
    have hy2 : e y = .agg cs := hy w (e y) hb (hat y (by rw [ho]; exact Array.mem_def.2 (List.Mem.tail _ (List.Mem.head _))))
    have hrow := (hR.row _ hm).2
    have hst := run_storeVar_row (P := Tryz.prog) w g t2 t cs cs hrow hi rfl h1
    have hsame : w.setRow g cs = w := by
      unfold World.setRow
      refine (congrArg (fun h => { w with heap := h }) (?_ : _ = w.heap)).trans rfl
      apply Array.ext
      · simp
      · intro k h1 h2
        rw [Array.getElem_modify]
        split
        · next e =>
          subst e
          rw [(Array.getElem?_eq_some_iff.1 hrow).2]
        · rfl
    unfold execOp
    simp only [ho, hx2, hy2, Instr.storeAt, Instr.sureAddr, Sem.run_bind, Sem.run_pure, Result.andThen_ok, hst, hsame]⟩, fun _ => rfl⟩), h⟩
theorem g_move {x : Operand} {R : Prd} (ho : o.op = .move x) (hst : Stb R) (hx : Has ws a0 Γ x R) (h : softG Tryz.prog B w0 ws L full a0 K n l ((o.dst, R) :: Γ))
    (hlv : Live full ws a0 Γ o := by first | exact ⟨rfl, Or.inl rfl⟩ | exact live_of rfl rfl rfl (fun _ _ _ h => h)) : softG Tryz.prog B w0 ws L full a0 K (n + 1) (o :: l) Γ :=
  g_any hst (fun w e _ hb hat => by
    have h1 := hx w (e x) hb (hat x (by rw [ho]; exact Array.mem_singleton_self x))
    unfold execOp
    simp only [ho]
    exact ⟨h1, Below.refl _ _⟩) h hlv
theorem g_assign {x : Operand} {R : Prd} (ho : o.op = .assign x) (hst : Stb R) (hx : Has ws a0 Γ x R) (h : softG Tryz.prog B w0 ws L full a0 K n l ((o.dst, R) :: Γ))
    (hlv : Live full ws a0 Γ o := by first | exact ⟨rfl, Or.inl rfl⟩ | exact live_of rfl rfl rfl (fun _ _ _ h => h)) : softG Tryz.prog B w0 ws L full a0 K (n + 1) (o :: l) Γ :=
  g_any hst (fun w e _ hb hat => by
    have h1 := hx w (e x) hb (hat x (by rw [ho]; exact Array.mem_singleton_self x))
    unfold execOp
    simp only [ho]
    exact ⟨h1, Below.refl _ _⟩) h hlv
theorem g_val {x : Operand} {R A : Prd} (hst : Stb R) (hmem : x ∈ o.op.operands) (hx : Has ws a0 Γ x A) (hv : ∀ (w : World) (e : Operand → Value), Rws B w0 w L → Below ws.heap.size ws w → A w (e x) → ∃ v, (execOp e o).run Tryz.prog w = .ok (.value v) w ∧ R w v)
    (h : softG Tryz.prog B w0 ws L full a0 K n l ((o.dst, R) :: Γ)) (hlv : Live full ws a0 Γ o := by first | exact ⟨rfl, Or.inl rfl⟩ | exact live_of rfl rfl rfl (fun _ _ _ h => h)) : softG Tryz.prog B w0 ws L full a0 K (n + 1) (o :: l) Γ :=
  g_any hst (fun w e hR hb hat => by
    obtain ⟨v, hv1, hv2⟩ := hv w e hR hb (hx w (e x) hb (hat x hmem))
    rw [hv1]
    exact ⟨hv2, Below.refl _ _⟩) h hlv
/-- A whole struct or array. -/
theorem g_ldw {t t2 : TypeId} {x : Operand} {g : Nat} {cs : Array Value} {d : TypeDesc} {R : Prd} (ho : o.op = .load t x) (hx : Has ws a0 Γ x (Is (.pointer (some ⟨g, 0, none⟩)))) (hm : (g, cs, t2) ∈ L)
    (hu : Tryz.prog.underlying t = some d) (hd : isSA d = true) (hi : (Tryz.prog.info? t).map (·.size) = some cs.size)
    (hst : Stb R) (hr : ∀ w, Below ws.heap.size ws w → R w (.agg cs)) (h : softG Tryz.prog B w0 ws L full a0 K n l ((o.dst, R) :: Γ)) (hlv : Live full ws a0 Γ o := by first | exact ⟨rfl, Or.inl rfl⟩ | exact live_of rfl rfl rfl (fun _ _ _ h => h)) : softG Tryz.prog B w0 ws L full a0 K (n + 1) (o :: l) Γ :=
  g_val (x := x) (A := Is (.pointer (some ⟨g, 0, none⟩))) hst (by rw [ho]; exact Array.mem_singleton_self x) hx (fun w e hw hb he => by
    have h1 := run_load_part (P := Tryz.prog) (w := w) (k := 0) (vs := cs) (hw.row _ hm).2 hu (by cases d <;> first | rfl | cases hd) hi (fun j _ => by rw [Nat.zero_add])
    refine ⟨.agg cs, ?_, hr w hb⟩
    have he : e x = .pointer (some ⟨g, 0, none⟩) := he
    unfold execOp
    simp only [ho, he]
    rw [Sem.run_bind, h1]
    rfl) h hlv
theorem exec_call {f : FuncId} {xs : List Operand} {ats : Array TypeId} {fn : Func} {c : Code} {e : Operand → Value} {w : World} {o : Oper} (ho : o.op = .call { callee := .value (.func f), args := xs.toArray, argTypes := ats }) (hf : Tryz.prog.funcs[f]? = some fn) (hname : (fn.name == "runtime.NumGoroutine") = false) (hb : fn.body = some c) (hfun : e (.func f) = a0.eval (.func f)) :
    (execOp e o).run Tryz.prog w = .ok (.enter f (xs.map e).toArray) w := by
  have h1 : fn.name ≠ "runtime.NumGoroutine" := by simpa using hname
  have e1 : execOp e o = callFunc f (xs.map e).toArray := by
    unfold execOp
    simp only [ho, resolve, hfun]
    show callFunc f (#[] ++ xs.toArray.map e ++ #[]) = _
    simp
  rw [e1]
  simp [callFunc, hf, h1, hb]
/-- A call. -/
theorem g_call {f : FuncId} {xs : List Operand} {ats : Array TypeId} {fn : Func} {c : Code} {R : Prd} (ho : o.op = .call { callee := .value (.func f), args := xs.toArray, argTypes := ats }) (hf : Tryz.prog.funcs[f]? = some fn) (hname : (fn.name == "runtime.NumGoroutine") = false) (hb : fn.body = some c) (hst : Stb R)
    (hc : ∀ (w : World) (e : Operand → Value), Below ws.heap.size ws w → (∀ x, x ∈ xs → AtE a0 Γ w x (e x)) → Calls Tryz.prog f (xs.map e).toArray w fun en w' => ∃ v, en = .returned v ∧ R w' v ∧ Below w.heap.size w w')
    (h : softG Tryz.prog B w0 ws L full a0 K n l ((o.dst, R) :: Γ)) (hlv : Live full ws a0 Γ o := by first | exact ⟨rfl, Or.inl rfl⟩ | exact live_of rfl rfl rfl (fun _ _ _ h => h)) : softG Tryz.prog B w0 ws L full a0 K (n + 1) (o :: l) Γ :=
  g_any hst (fun w e _ hbl hat => by
    have hmem : ∀ x, x ∈ xs → x ∈ o.op.operands := fun x hx => by
      rw [ho]
      show x ∈ #[Operand.func f] ++ xs.toArray
      exact Array.mem_append.2 (Or.inr (by simpa using hx))
    have hfun : e (.func f) = a0.eval (.func f) := hat (.func f) (by
      rw [ho]
      show Operand.func f ∈ #[Operand.func f] ++ xs.toArray
      exact Array.mem_append.2 (Or.inl (Array.mem_singleton_self _)))
    rw [exec_call (a0 := a0) ho hf hname hb hfun]
    exact ⟨rfl, hc w e hbl fun x hx => hat x (hmem x hx)⟩) h hlv
theorem g_call1 {f : FuncId} {x : Operand} {ats : Array TypeId} {fn : Func} {c : Code} {A R : Prd} (ho : o.op = .call { callee := .value (.func f), args := [x].toArray, argTypes := ats }) (hf : Tryz.prog.funcs[f]? = some fn) (hname : (fn.name == "runtime.NumGoroutine") = false) (hb : fn.body = some c) (hst : Stb R)
    (hx : Has ws a0 Γ x A) (hc : ∀ (w : World) (v : Value), A w v → Calls Tryz.prog f #[v] w fun en w' => ∃ u, en = .returned u ∧ R w' u ∧ Below w.heap.size w w')
    (h : softG Tryz.prog B w0 ws L full a0 K n l ((o.dst, R) :: Γ)) (hlv : Live full ws a0 Γ o := by first | exact ⟨rfl, Or.inl rfl⟩ | exact live_of rfl rfl rfl (fun _ _ _ h => h)) : softG Tryz.prog B w0 ws L full a0 K (n + 1) (o :: l) Γ :=
  g_call ho hf hname hb hst (fun w e hbl hat => hc w (e x) (hx w _ hbl (hat x (List.Mem.head _)))) h hlv
theorem g_call2 {f : FuncId} {x y : Operand} {ats : Array TypeId} {fn : Func} {c : Code} {A A' R : Prd} (ho : o.op = .call { callee := .value (.func f), args := [x, y].toArray, argTypes := ats }) (hf : Tryz.prog.funcs[f]? = some fn) (hname : (fn.name == "runtime.NumGoroutine") = false) (hb : fn.body = some c) (hst : Stb R)
    (hx : Has ws a0 Γ x A) (hy : Has ws a0 Γ y A') (hc : ∀ (w : World) (v u : Value), A w v → A' w u → Calls Tryz.prog f #[v, u] w fun en w' => ∃ u, en = .returned u ∧ R w' u ∧ Below w.heap.size w w')
    (h : softG Tryz.prog B w0 ws L full a0 K n l ((o.dst, R) :: Γ)) (hlv : Live full ws a0 Γ o := by first | exact ⟨rfl, Or.inl rfl⟩ | exact live_of rfl rfl rfl (fun _ _ _ h => h)) : softG Tryz.prog B w0 ws L full a0 K (n + 1) (o :: l) Γ :=
  g_call ho hf hname hb hst (fun w e hbl hat => hc w (e x) (e y) (hx w _ hbl (hat x (List.Mem.head _))) (hy w _ hbl (hat y (List.Mem.tail _ (List.Mem.head _))))) h hlv
theorem g_two {x y : Operand} {v u r : Value} (hm : x ∈ o.op.operands) (hm2 : y ∈ o.op.operands) (hx : Has ws a0 Γ x (Is v)) (hy : Has ws a0 Γ y (Is u))
    (hr : ∀ (w : World) (e : Operand → Value), e x = v → e y = u → (execOp e o).run Tryz.prog w = .ok (.value r) w)
    (h : softG Tryz.prog B w0 ws L full a0 K n l ((o.dst, Is r) :: Γ)) (hlv : Live full ws a0 Γ o := by first | exact ⟨rfl, Or.inl rfl⟩ | exact live_of rfl rfl rfl (fun _ _ _ h => h)) : softG Tryz.prog B w0 ws L full a0 K (n + 1) (o :: l) Γ :=
  g_any (stb_is _) (fun w e _ hb hat => by
    have h1 : e x = v := hx w _ hb (hat x hm)
    have h2 : e y = u := hy w _ hb (hat y hm2)
    rw [hr w e h1 h2]
    exact ⟨rfl, Below.refl _ _⟩) h hlv
/-- A sum, a quotient, a comparison .. of two values. -/
theorem g_bin {x y : Operand} {b : BinOp} {t t2 : TypeId} {v u r : Value} (ho : o.op = .binOp b t x y t2) (hx : Has ws a0 Γ x (Is v)) (hy : Has ws a0 Γ y (Is u)) (hg : eqGuard b t x y v u = pure ())
    (hr : ∀ W : World, (binOp b t v u).run Tryz.prog W = .ok r W)
    (h : softG Tryz.prog B w0 ws L full a0 K n l ((o.dst, Is r) :: Γ)) (hlv : Live full ws a0 Γ o := by first | exact ⟨rfl, Or.inl rfl⟩ | exact live_of rfl rfl rfl (fun _ _ _ h => h)) : softG Tryz.prog B w0 ws L full a0 K (n + 1) (o :: l) Γ :=
  g_two (x := x) (y := y) (by rw [ho]; exact Array.mem_def.2 (List.Mem.head _)) (by rw [ho]; exact Array.mem_def.2 (List.Mem.tail _ (List.Mem.head _))) hx hy (fun w e h1 h2 => by
    unfold execOp
    simp only [ho, h1, h2]
    rw [hg, Sem.run_bind, Sem.run_bind, Sem.run_pure]
    show ((binOp b t v u).run Tryz.prog w).andThen _ = _
    rw [hr w]
    rfl) h hlv
/-- One of two, by a bool. -/
theorem g_pick {x y z : Operand} {b : Bool} {R : Prd} (ho : o.op = .pick x y z) (hx : Has ws a0 Γ x (Is (.bool b))) (hst : Stb R) (hy : Has ws a0 Γ (bif b then y else z) R)
    (h : softG Tryz.prog B w0 ws L full a0 K n l ((o.dst, R) :: Γ)) (hlv : Live full ws a0 Γ o := by first | exact ⟨rfl, Or.inl rfl⟩ | exact live_of rfl rfl rfl (fun _ _ _ h => h)) : softG Tryz.prog B w0 ws L full a0 K (n + 1) (o :: l) Γ :=
  g_any hst (fun w e _ hb hat => by
    have h1 : e x = .bool b := hx w _ hb (hat x (by rw [ho]; exact Array.mem_def.2 (List.Mem.head _)))
    have h2 : R w (e (bif b then y else z)) := hy w _ hb (hat _ (by
      rw [ho]; cases b
      · exact Array.mem_def.2 (List.Mem.tail _ (List.Mem.tail _ (List.Mem.head _)))
      · exact Array.mem_def.2 (List.Mem.tail _ (List.Mem.head _))))
    unfold execOp
    simp only [ho, h1]
    cases b
    · exact ⟨h2, Below.refl _ _⟩
    · exact ⟨h2, Below.refl _ _⟩) h hlv
/-- Of one operand: a conversion, a length, a cut .. -/
theorem g_one {x : Operand} {A : Prd} {r : Value} (hm : x ∈ o.op.operands) (hx : Has ws a0 Γ x A) (hr : ∀ (w : World) (e : Operand → Value), Below ws.heap.size ws w → A w (e x) → (execOp e o).run Tryz.prog w = .ok (.value r) w)
    (h : softG Tryz.prog B w0 ws L full a0 K n l ((o.dst, Is r) :: Γ)) (hlv : Live full ws a0 Γ o := by first | exact ⟨rfl, Or.inl rfl⟩ | exact live_of rfl rfl rfl (fun _ _ _ h => h)) : softG Tryz.prog B w0 ws L full a0 K (n + 1) (o :: l) Γ :=
  g_val (stb_is _) hm hx (fun w e _ hb he => ⟨r, hr w e hb he, rfl⟩) h hlv
theorem g_not {x : Operand} {t : TypeId} {b : Bool} (ho : o.op = .unOp .not t x) (hx : Has ws a0 Γ x (Is (.bool b)))
    (h : softG Tryz.prog B w0 ws L full a0 K n l ((o.dst, Is (.bool (!b))) :: Γ)) (hlv : Live full ws a0 Γ o := by first | exact ⟨rfl, Or.inl rfl⟩ | exact live_of rfl rfl rfl (fun _ _ _ h => h)) : softG Tryz.prog B w0 ws L full a0 K (n + 1) (o :: l) Γ :=
  g_one (x := x) (by rw [ho]; exact Array.mem_singleton_self x) hx (fun w e _ he => by
    have he : e x = .bool b := he
    unfold execOp
    simp only [ho, he]
    rfl) h hlv
theorem exec_callv {f : FuncId} {y : Operand} {xs : List Operand} {ats : Array TypeId} {fn : Func} {c : Code} {e : Operand → Value} {w : World} {o : Oper} (ho : o.op = .call { callee := .value y, args := xs.toArray, argTypes := ats }) (hf : Tryz.prog.funcs[f]? = some fn) (hname : (fn.name == "runtime.NumGoroutine") = false) (hb : fn.body = some c) (hfun : e y = .func (.func f) #[] #[]) :
    (execOp e o).run Tryz.prog w = .ok (.enter f (xs.map e).toArray) w := by
  have h1 : fn.name ≠ "runtime.NumGoroutine" := by simpa using hname
  have e1 : execOp e o = callFunc f (xs.map e).toArray := by
    unfold execOp
    simp only [ho, resolve, hfun]
    show callFunc f (#[] ++ xs.toArray.map e ++ #[]) = _
    simp
  rw [e1]
  simp [callFunc, hf, h1, hb]
theorem g_callv {f : FuncId} {y : Operand} {xs : List Operand} {ats : Array TypeId} {fn : Func} {c : Code} {R : Prd} (ho : o.op = .call { callee := .value y, args := xs.toArray, argTypes := ats }) (hf : Tryz.prog.funcs[f]? = some fn) (hname : (fn.name == "runtime.NumGoroutine") = false) (hb : fn.body = some c) (hst : Stb R)
    (hy : Has ws a0 Γ y (Is (.func (.func f) #[] #[])))
    (hc : ∀ (w : World) (e : Operand → Value), Below ws.heap.size ws w → (∀ x, x ∈ xs → AtE a0 Γ w x (e x)) → Calls Tryz.prog f (xs.map e).toArray w fun en w' => ∃ v, en = .returned v ∧ R w' v ∧ Below w.heap.size w w')
    (h : softG Tryz.prog B w0 ws L full a0 K n l ((o.dst, R) :: Γ)) (hlv : Live full ws a0 Γ o := by first | exact ⟨rfl, Or.inl rfl⟩ | exact live_of rfl rfl rfl (fun _ _ _ h => h)) : softG Tryz.prog B w0 ws L full a0 K (n + 1) (o :: l) Γ :=
  g_any hst (fun w e _ hbl hat => by
    have hmem : ∀ x, x ∈ xs → x ∈ o.op.operands := fun x hx => by
      rw [ho]
      show x ∈ #[y] ++ xs.toArray
      exact Array.mem_append.2 (Or.inr (by simpa using hx))
    have hfun : e y = .func (.func f) #[] #[] := hy w _ hbl (hat y (by
      rw [ho]
      show y ∈ #[y] ++ xs.toArray
      exact Array.mem_append.2 (Or.inl (Array.mem_singleton_self _))))
    rw [exec_callv ho hf hname hb hfun]
    exact ⟨rfl, hc w e hbl fun x hx => hat x (hmem x hx)⟩) h hlv
theorem g_callv1 {f : FuncId} {y x : Operand} {ats : Array TypeId} {fn : Func} {c : Code} {A R : Prd} (ho : o.op = .call { callee := .value y, args := [x].toArray, argTypes := ats }) (hf : Tryz.prog.funcs[f]? = some fn) (hname : (fn.name == "runtime.NumGoroutine") = false) (hb : fn.body = some c) (hst : Stb R)
    (hy : Has ws a0 Γ y (Is (.func (.func f) #[] #[]))) (hx : Has ws a0 Γ x A) (hc : ∀ (w : World) (v : Value), A w v → Calls Tryz.prog f #[v] w fun en w' => ∃ u, en = .returned u ∧ R w' u ∧ Below w.heap.size w w')
    (h : softG Tryz.prog B w0 ws L full a0 K n l ((o.dst, R) :: Γ)) (hlv : Live full ws a0 Γ o := by first | exact ⟨rfl, Or.inl rfl⟩ | exact live_of rfl rfl rfl (fun _ _ _ h => h)) : softG Tryz.prog B w0 ws L full a0 K (n + 1) (o :: l) Γ :=
  g_callv ho hf hname hb hst hy (fun w e hbl hat => hc w (e x) (hx w _ hbl (hat x (List.Mem.head _)))) h hlv
theorem g_callv2 {f : FuncId} {y x z : Operand} {ats : Array TypeId} {fn : Func} {c : Code} {A A' R : Prd} (ho : o.op = .call { callee := .value y, args := [x, z].toArray, argTypes := ats }) (hf : Tryz.prog.funcs[f]? = some fn) (hname : (fn.name == "runtime.NumGoroutine") = false) (hb : fn.body = some c) (hst : Stb R)
    (hy : Has ws a0 Γ y (Is (.func (.func f) #[] #[]))) (hx : Has ws a0 Γ x A) (hz : Has ws a0 Γ z A') (hc : ∀ (w : World) (v u : Value), A w v → A' w u → Calls Tryz.prog f #[v, u] w fun en w' => ∃ u, en = .returned u ∧ R w' u ∧ Below w.heap.size w w')
    (h : softG Tryz.prog B w0 ws L full a0 K n l ((o.dst, R) :: Γ)) (hlv : Live full ws a0 Γ o := by first | exact ⟨rfl, Or.inl rfl⟩ | exact live_of rfl rfl rfl (fun _ _ _ h => h)) : softG Tryz.prog B w0 ws L full a0 K (n + 1) (o :: l) Γ :=
  g_callv ho hf hname hb hst hy (fun w e hbl hat => hc w (e x) (e z) (hx w _ hbl (hat x (List.Mem.head _))) (hz w _ hbl (hat z (List.Mem.tail _ (List.Mem.head _))))) h hlv
end
end Go.Proofs.YtipjkjcmceeaeaaGreatDoor
