/- QPt0 QSteps QPt1, in one text. -/
import Derived.Test.YtaggpodckafbgaaGreatDoorZQ3
import Derived.Test.YtaggpodckafbgaaGreatDoorZSoft
import Derived.Test.YtaggpodckafbgaaGreatDoorZEKey
import Derived.Great.BuildSlice
import Derived.Test.YtaggpodckafbgaaGreatDoorZM
import Derived.Test.YtaggpodckafbgaaGreatDoorZA0
/- The reference's points in memory (layer 5): words, and the steps of drawn regions. -/
namespace Go.Proofs.YtaggpodckafbgaaGreatDoor
open Go.RowKit
def QVp (u : Nat) : Prd := fun w v => QV w v u
def Is (u : Value) : Prd := fun _ v => v = u
theorem stb_q (u : Nat) : Stb (QVp u) := fun _ _ _ hb h => h.below hb
theorem stb_is (u : Value) : Stb (Is u) := fun _ _ _ _ h => h
theorem QV.one {w : World} {x : Value} {u : Nat} (h : QV w x u) : x.oneCell' = true := by
  obtain ⟨ao, n, c, rfl, _⟩ := h; rfl
def nilS : Value := .slice none 0 0
def PtC (w : World) (cs : Array Value) : Ec.Pt Ec.P → Prop
  | .inf => cs = #[.bool true, nilS, nilS]
  | .at x y => ∃ X Y : Value, cs = #[.bool false, X, Y] ∧ QV w X x.val ∧ QV w Y y.val
def PtV (A : Ec.Pt Ec.P) : Prd := fun w v => ∃ cs, v = .agg cs ∧ PtC w cs A
def LnC (w : World) (cs : Array Value) (j : Ec.Jac Ec.P) : Prop := ∃ X Y Z : Value, cs = #[X, Y, Z] ∧ QV w X j.x.val ∧ QV w Y j.y.val ∧ QV w Z j.z.val
def LnV (j : Ec.Jac Ec.P) : Prd := fun w v => ∃ cs, v = .agg cs ∧ LnC w cs j
theorem PtC.below {w w' : World} {cs : Array Value} {A : Ec.Pt Ec.P} (h : PtC w cs A) (hb : Below w.heap.size w w') : PtC w' cs A := by
  cases A with
  | inf => exact h
  | «at» x y => obtain ⟨X, Y, e, h1, h2⟩ := h; exact ⟨X, Y, e, h1.below hb, h2.below hb⟩
theorem LnC.below {w w' : World} {cs : Array Value} {j : Ec.Jac Ec.P} (h : LnC w cs j) (hb : Below w.heap.size w w') : LnC w' cs j := by
  obtain ⟨X, Y, Z, e, h1, h2, h3⟩ := h; exact ⟨X, Y, Z, e, h1.below hb, h2.below hb, h3.below hb⟩
theorem stb_pt (A : Ec.Pt Ec.P) : Stb (PtV A) := fun _ _ _ hb ⟨cs, e, h⟩ => ⟨cs, e, h.below hb⟩
theorem stb_ln (j : Ec.Jac Ec.P) : Stb (LnV j) := fun _ _ _ hb ⟨cs, e, h⟩ => ⟨cs, e, h.below hb⟩
theorem PtC.size {w : World} {cs : Array Value} {A : Ec.Pt Ec.P} (h : PtC w cs A) : cs.size = 3 := by
  cases A with
  | inf => rw [show cs = _ from h]; rfl
  | «at» x y => obtain ⟨X, Y, e, h1, h2⟩ := h; rw [e]; rfl
theorem LnC.size {w : World} {cs : Array Value} {j : Ec.Jac Ec.P} (h : LnC w cs j) : cs.size = 3 := by
  obtain ⟨X, Y, Z, e, h1, h2, h3⟩ := h; rw [e]; rfl
theorem PtC.cells {w : World} {cs : Array Value} {A : Ec.Pt Ec.P} (h : PtC w cs A) : cs.all (·.oneCell') = true := by
  cases A with
  | inf => rw [show cs = _ from h]; simp [nilS, Value.oneCell']
  | «at» x y => obtain ⟨X, Y, e, h1, h2⟩ := h; rw [e]; simp [h1.one, h2.one]; rfl
theorem LnC.cells {w : World} {cs : Array Value} {j : Ec.Jac Ec.P} (h : LnC w cs j) : cs.all (·.oneCell') = true := by
  obtain ⟨X, Y, Z, e, h1, h2, h3⟩ := h; rw [e]; simp [h1.one, h2.one, h3.one]
theorem nil_q (w : World) : QV w nilS 0 := ⟨_, _, _, rfl, ⟨by decide +kernel, Rd.nil _ _ _⟩, by decide⟩
def zpt : Array Value := #[.bool false, nilS, nilS]
def zln : Array Value := #[nilS, nilS, nilS]
theorem zero_pt : ∀ w : World, (zeroValue 31).run Tryz.prog w = .ok (.agg zpt) w := Tryz.zeroValue31
theorem zero_ln : ∀ w : World, (zeroValue 103).run Tryz.prog w = .ok (.agg zln) w := Tryz.zeroValue103
theorem pt_info {cs : Array Value} (h : cs.size = 3) : (Tryz.prog.info? 31).map (·.size) = some cs.size := by rw [h]; kernel_rfl
theorem ln_info {cs : Array Value} (h : cs.size = 3) : (Tryz.prog.info? 103).map (·.size) = some cs.size := by rw [h]; kernel_rfl
theorem q_info : (Tryz.prog.info? 29).map (·.size) = some 1 := by kernel_rfl
theorem bool_info : (Tryz.prog.info? 4).map (·.size) = some 1 := by kernel_rfl
theorem isAgg_q : ∀ w : World, (isAgg 29).run Tryz.prog w = .ok false w := Tryz.isAgg29
theorem isAgg_b : ∀ w : World, (isAgg 4).run Tryz.prog w = .ok false w := Tryz.isAgg4
theorem built_inf : Tryz.prog.built 31 [(0, .bool true)] = some #[.bool true, nilS, nilS] := by kernel_rfl
theorem built_none : Tryz.prog.built 31 [] = some zpt := by kernel_rfl
theorem built_zln : Tryz.prog.built 103 [] = some zln := by kernel_rfl
set_option maxRecDepth 100000 in
theorem built_at {w : World} {X Y : Value} {u v : Nat} (hx : QV w X u) (hy : QV w Y v) : Tryz.prog.built 31 [(1, X), (2, Y)] = some #[.bool false, X, Y] := by
  obtain ⟨ao, n, c, rfl, _⟩ := hx
  obtain ⟨bo, m, d, rfl, _⟩ := hy
  kernel_rfl
set_option maxRecDepth 100000 in
theorem built_ln {w : World} {X Y Z : Value} {u v t : Nat} (hx : QV w X u) (hy : QV w Y v) (hz : QV w Z t) : Tryz.prog.built 103 [(0, X), (1, Y), (2, Z)] = some #[X, Y, Z] := by
  obtain ⟨ao, n, c, rfl, _⟩ := hx
  obtain ⟨bo, m, d, rfl, _⟩ := hy
  obtain ⟨co, k, f, rfl, _⟩ := hz
  kernel_rfl
theorem times_v {X Y : Value} {a b : Ec.F} {w : World} (hx : QV w X a.val) (hy : QV w Y b.val) : Calls Tryz.prog 39 #[X, Y] w (RetQV w (a * b).val) := by
  obtain ⟨ao, n, c, rfl, hq, hn⟩ := hx
  obtain ⟨bo, m, d, rfl, hq', hm⟩ := hy
  exact (qtimes_any _ _ _ _ _ _ _ _ _ hq hq').mono fun _ _ h => h.v (F_lt _)
theorem plus_v {X Y : Value} {a b : Ec.F} {w : World} (hx : QV w X a.val) (hy : QV w Y b.val) : Calls Tryz.prog 37 #[X, Y] w (RetQV w (a + b).val) := by
  obtain ⟨ao, n, c, rfl, hq, hn⟩ := hx
  obtain ⟨bo, m, d, rfl, hq', hm⟩ := hy
  exact (qplus_any _ _ _ _ _ _ _ _ _ hq hq').mono fun _ _ h => h.v (F_lt _)
theorem minus_v {X Y : Value} {a b : Ec.F} {w : World} (hx : QV w X a.val) (hy : QV w Y b.val) : Calls Tryz.prog 38 #[X, Y] w (RetQV w (a - b).val) := by
  obtain ⟨ao, n, c, rfl, hq, hn⟩ := hx
  obtain ⟨bo, m, d, rfl, hq', hm⟩ := hy
  exact (qminus_any _ _ _ _ _ _ _ _ _ hq hq').mono fun _ _ h => h.v (F_lt _)
theorem neg_v {X : Value} {a : Ec.F} {w : World} (hx : QV w X a.val) : Calls Tryz.prog 76 #[.int .i64 0, X] w (RetQV w (-a).val) := by
  obtain ⟨ao, n, c, rfl, hq, hn⟩ := hx
  have e : (-a).val = (pp 0 - a.val % pp 0) % pp 0 := by
    rw [pp0, Nat.mod_eq_of_lt a.isLt]
    exact Fin.val_neg' a
  rw [e]
  exact (qopp_any 0 _ _ _ _ _ hq (F_lt a)).mono fun _ _ h => h.v (Nat.lt_trans (Nat.mod_lt _ (pp_pos 0)) (pp_big 0).1)
theorem inv_v {X : Value} {a : Ec.F} {w : World} (hx : QV w X a.val) (h0 : a ≠ 0) : Calls Tryz.prog 52 #[.int .i64 0, X] w (RetQV w (Ec.inv a).val) := by
  have h1 : ¬ Ec.P ∣ a.val := fun hd => h0 (Fin.ext (by simpa using Nat.eq_zero_of_dvd_of_lt hd a.isLt))
  have hc : Nat.gcd (a.val % pp 0) (pp 0) = 1 := by
    rw [pp0, Nat.mod_eq_of_lt a.isLt]
    exact Ec.Prime.coprime Ec.hP h1
  refine (qinv_any 0 X a.val w hx hc).mono ?_
  rintro e w' ⟨z, x, rfl, hz, hxl, hxa, hb⟩
  refine ⟨z, rfl, ?_, hb⟩
  rw [pp0] at hxl hxa
  have e : (⟨x, hxl⟩ : Ec.F) = Ec.inv a := by
    have h2 : (⟨x, hxl⟩ : Ec.F) * a = 1 := Fin.ext (by rw [Fin.val_mul]; show x * a.val % Ec.P = _; rw [hxa]; rfl)
    have h3 := Ec.inv_ok Ec.hP h0
    grobner
  rw [← e]
  exact hz
theorem cmpF_v {X Y : Value} {a b : Ec.F} {w : World} (hx : QV w X a.val) (hy : QV w Y b.val) : Calls Tryz.prog 35 #[X, Y] w fun e w' => (a = b → e = .returned (.int .i64 0)) ∧ (a ≠ b → ∃ c : Int, c ≠ 0 ∧ e = .returned (.int .i64 c)) ∧ Below w.heap.size w w' := by
  refine (cmp_v _ _ _ _ _ hx hy).mono ?_
  rintro e w' ⟨rfl, hb⟩
  refine ⟨fun h => by rw [h, cmpN_eq], fun h => ⟨_, fun h0 => h ?_, rfl⟩, hb⟩
  apply Fin.ext
  unfold cmpN at h0
  split at h0
  · cases h0
  · split at h0
    · assumption
    · cases h0
section
variable {B : Nat} {w0 w ws : World} {L : List (Nat × Array Value × TypeId)} {ops : Array Oper} {rest : List Oper} {a : Act} {Q : Exit → Act → World → Prop} {o : Oper}
theorem wF_load {t t2 : TypeId} {x : Operand} {g k : Nat} {cs : Array Value} {v : Value} (hgd : o.guard = none) (ho : o.op = .load t x) (h : Rws B w0 w L) (hx : a.eval x = .pointer (some ⟨g, k, none⟩)) (hm : (g, cs, t2) ∈ L) (hc : cs[k]? = some v) (hag : ∀ w : World, (isAgg t).run Tryz.prog w = .ok false w)
    (hK : wpList Tryz.prog ops Q rest (a.put o.dst v) w) : wpList Tryz.prog ops Q (o :: rest) a w :=
  wpList_plain hgd fun K hKK => by
    have hcell : w.cell? ⟨g, k, none⟩ = some v := (cell_of_row w g k cs t2 _ (h.row _ hm).2).trans hc
    have h1 : (Instr.loadAt t (.pointer (some ⟨g, k, none⟩))).run Tryz.prog w = .ok v w := by
      simp [Instr.loadAt, Instr.sureAddr, loadVar, Sem.run_bind, hag, run_load, hcell]
    unfold Oper.wp execOp
    simp only [ho, hx]
    rw [Sem.run_bind, h1]
    exact hKK _ _ hK
theorem wQ_load {x : Operand} {g : Nat} {cs : Array Value} (hgd : o.guard = none) (ho : o.op = .load 31 x) (h : Rws B w0 w L) (hx : a.eval x = .pointer (some ⟨g, 0, none⟩)) (hm : (g, cs, 31) ∈ L) (hs : cs.size = 3)
    (hK : wpList Tryz.prog ops Q rest (a.put o.dst (.agg cs)) w) : wpList Tryz.prog ops Q (o :: rest) a w :=
  wpList_load_rws hgd _ x ho h g hx cs _ hm _ Tryz.underlying31 rfl (pt_info hs) hK
theorem wQ_loadL {x : Operand} {g : Nat} {cs : Array Value} (hgd : o.guard = none) (ho : o.op = .load 103 x) (h : Rws B w0 w L) (hx : a.eval x = .pointer (some ⟨g, 0, none⟩)) (hm : (g, cs, 103) ∈ L) (hs : cs.size = 3)
    (hK : wpList Tryz.prog ops Q rest (a.put o.dst (.agg cs)) w) : wpList Tryz.prog ops Q (o :: rest) a w :=
  wpList_load_rws hgd _ x ho h g hx cs _ hm _ Tryz.underlying103 rfl (ln_info hs) hK
structure But (g : Nat) (w w' : World) : Prop where
  size : w'.heap.size = w.heap.size
  same : ∀ k, k ≠ g → w'.heap[k]? = w.heap[k]?
def NoInt (cs : Array Value) : Prop := ∀ (j : Nat) kd i, cs[j]? ≠ some (.int kd i)
theorem QV.noint {w : World} {x : Value} {u : Nat} (h : QV w x u) : ∀ kd i, x ≠ .int kd i := by
  obtain ⟨ao, n, c, rfl, _⟩ := h
  intro kd i e; cases e
theorem noint3 {x y z : Value} (hx : ∀ kd i, x ≠ .int kd i) (hy : ∀ kd i, y ≠ .int kd i) (hz : ∀ kd i, z ≠ .int kd i) : NoInt #[x, y, z] := by
  intro j kd i h
  match j, h with
  | 0, h => exact hx kd i (Option.some.inj h)
  | 1, h => exact hy kd i (Option.some.inj h)
  | 2, h => exact hz kd i (Option.some.inj h)
  | j + 3, h => cases h
theorem nilS_noint : ∀ kd i, nilS ≠ .int kd i := fun kd i e => by cases e
theorem zpt_noint : NoInt zpt := noint3 (fun _ _ e => by cases e) nilS_noint nilS_noint
theorem zln_noint : NoInt zln := noint3 nilS_noint nilS_noint nilS_noint
theorem LnC.noint {w : World} {cs : Array Value} {j : Ec.Jac Ec.P} (h : LnC w cs j) : NoInt cs := by
  obtain ⟨X, Y, Z, e, h1, h2, h3⟩ := h; rw [e]; exact noint3 h1.noint h2.noint h3.noint
theorem QV.but {w w' : World} {x : Value} {u g : Nat} {cs : Array Value} {t : TypeId} (h : QV w x u) (hb : But g w w') (hr : w.heap[g]? = some (.cells cs t (0, 0))) (hn : NoInt cs) : QV w' x u := by
  obtain ⟨ao, n, c, rfl, hq, hn16⟩ := h
  refine ⟨ao, n, c, rfl, ⟨hq.len, hq.rd.sh, hq.rd.le, hq.rd.cm, fun j hj => ?_⟩, hn16⟩
  have hc := hq.rd.cell j hj
  have hne : blk ao ≠ g := by
    intro e
    rw [e] at hc
    have h2 : w.cell? ⟨g, off ao + j, none⟩ = cs[off ao + j]? := cell_of_row w g (off ao + j) cs t _ hr
    rw [h2] at hc
    exact hn _ _ _ hc
  rw [← hc]
  simp only [World.cell?, hb.same _ hne]
theorem PtC.but {w w' : World} {cs0 : Array Value} {A : Ec.Pt Ec.P} {g : Nat} {cs : Array Value} {t : TypeId} (h : PtC w cs0 A) (hb : But g w w') (hr : w.heap[g]? = some (.cells cs t (0, 0))) (hn : NoInt cs) : PtC w' cs0 A := by
  cases A with
  | inf => exact h
  | «at» x y => obtain ⟨X, Y, e, h1, h2⟩ := h; exact ⟨X, Y, e, h1.but hb hr hn, h2.but hb hr hn⟩
theorem LnC.but {w w' : World} {cs0 : Array Value} {j : Ec.Jac Ec.P} {g : Nat} {cs : Array Value} {t : TypeId} (h : LnC w cs0 j) (hb : But g w w') (hr : w.heap[g]? = some (.cells cs t (0, 0))) (hn : NoInt cs) : LnC w' cs0 j := by
  obtain ⟨X, Y, Z, e, h1, h2, h3⟩ := h; exact ⟨X, Y, Z, e, h1.but hb hr hn, h2.but hb hr hn, h3.but hb hr hn⟩
theorem but_setRow (w : World) (g : Nat) (cs : Array Value) : But g w (w.setRow g cs) := ⟨size_setRow _ _ _, fun k hk => by
  simp only [World.setRow, Array.getElem?_modify]
  rw [if_neg (fun e => hk e.symm)]⟩
theorem wB_store {t : TypeId} {x y : Operand} {g : Nat} {cs new : Array Value} {L' : List (Nat × Array Value × TypeId)} (hgd : o.guard = none) (ho : o.op = .store t x y) (h : Rws B w0 w L) (hx : a.eval x = .pointer (some ⟨g, 0, none⟩)) (hy : a.eval y = .agg new) (hm : Pick L (g, cs, t) L') (hi : (Tryz.prog.info? t).map (·.size) = some new.size) (hs : cs.size = new.size) (h1 : new.all (·.oneCell') = true)
    (hK : ∀ w', Rws B w0 w' ((g, new, t) :: L') → But g w w' → w.heap[g]? = some (.cells cs t (0, 0)) → wpList Tryz.prog ops Q rest (a.put o.dst undef) w') : wpList Tryz.prog ops Q (o :: rest) a w :=
  wpList_plain hgd fun K hKK => by
    have hr := (h.row _ hm.mem).2
    unfold Oper.wp execOp
    simp only [ho, hx, hy, Instr.storeAt, Instr.sureAddr, Sem.run_bind, Sem.run_pure, Result.andThen_ok, run_storeVar_row w g t t cs new hr hi hs h1]
    exact hKK _ _ (hK _ (h.set hm new) (but_setRow w g new) hr)
end
end Go.Proofs.YtaggpodckafbgaaGreatDoor
/- The steps of the reference's drawn regions (layer 5). -/
namespace Go.Proofs.YtaggpodckafbgaaGreatDoor
open Go.RowKit
section
variable {B : Nat} {w0 ws : World} {L : List (Nat × Array Value × TypeId)} {a0 : Act} {K : Act → World → Prop} {n : Nat} {l : List Oper} {o : Oper} {Γ : Env}
def Has (ws : World) (a0 : Act) (Γ : Env) (x : Operand) (R : Prd) : Prop := ∀ w v, Below ws.heap.size ws w → AtE a0 Γ w x v → R w v
theorem has_fix {x : Operand} {v : Value} {u : Nat} (h : ∀ w y, AtE a0 Γ w x y → y = v) (hq : QV ws v u) : Has ws a0 Γ x (QVp u) := fun w y hb hy => by rw [h w y hy]; exact hq.below hb
theorem s_any {R : Prd} (hst : Stb R) (hop : ∀ (w : World) (e : Operand → Value), Rws B w0 w L → Below ws.heap.size ws w → (∀ x, x ∈ o.op.operands → AtE a0 Γ w x (e x)) → softUpon Tryz.prog w R ((execOp e o).run Tryz.prog w)) (h : softW Tryz.prog B w0 ws L a0 K n l ((o.dst, R) :: Γ)) : softW Tryz.prog B w0 ws L a0 K (n + 1) (o :: l) Γ := ⟨R, hst, hop, h⟩
theorem s_move {x : Operand} {R : Prd} (ho : o.op = .move x) (hst : Stb R) (hx : Has ws a0 Γ x R) (h : softW Tryz.prog B w0 ws L a0 K n l ((o.dst, R) :: Γ)) : softW Tryz.prog B w0 ws L a0 K (n + 1) (o :: l) Γ :=
  s_any hst (fun w e _ hb hat => by
    have h1 := hx w (e x) hb (hat x (by rw [ho]; exact Array.mem_singleton_self x))
    unfold execOp
    simp only [ho]
    exact ⟨h1, Below.refl _ _⟩) h
theorem s_val {x : Operand} {R A : Prd} (hst : Stb R) (hmem : x ∈ o.op.operands) (hx : Has ws a0 Γ x A) (hv : ∀ (w : World) (e : Operand → Value), Rws B w0 w L → Below ws.heap.size ws w → A w (e x) → ∃ v, (execOp e o).run Tryz.prog w = .ok (.value v) w ∧ R w v)
    (h : softW Tryz.prog B w0 ws L a0 K n l ((o.dst, R) :: Γ)) : softW Tryz.prog B w0 ws L a0 K (n + 1) (o :: l) Γ :=
  s_any hst (fun w e hR hb hat => by
    obtain ⟨v, hv1, hv2⟩ := hv w e hR hb (hx w (e x) hb (hat x hmem))
    rw [hv1]
    exact ⟨hv2, Below.refl _ _⟩) h
theorem s_fa {st : TypeId} {x : Operand} {i g k off : Nat} {fs : Array Field} {f : Field} (ho' : o.op = .fieldAddr st x i) (hx : Has ws a0 Γ x (Is (.pointer (some ⟨g, k, none⟩)))) (hu : Tryz.prog.underlying st = some (.struct fs)) (hf : fs[i]? = some f)
    (hs : ∃ s, (Tryz.prog.info? f.type).map (·.size) = some (s + 1)) (ho : k + f.offset = off)
    (h : softW Tryz.prog B w0 ws L a0 K n l ((o.dst, Is (.pointer (some ⟨g, off, none⟩))) :: Γ)) : softW Tryz.prog B w0 ws L a0 K (n + 1) (o :: l) Γ :=
  s_val (x := x) (A := Is (.pointer (some ⟨g, k, none⟩))) (stb_is _) (by rw [ho']; exact Array.mem_singleton_self x) hx (fun w e _ _ he => by
    obtain ⟨s, hs⟩ := hs
    have h0 : (sizeOf f.type).run Tryz.prog w = .ok (s + 1) w := by
      cases hq : Tryz.prog.info? f.type with
      | none => simp [hq] at hs
      | some i =>
        have : i.size = s + 1 := by simpa [hq] using hs
        simp [sizeOf, typeInfo, hq, this, Sem.run_bind]
    have h1 : (Instr.fieldAt st (.pointer (some ⟨g, k, none⟩)) i).run Tryz.prog w = .ok (.pointer (some ⟨g, off, none⟩)) w := by
      unfold Instr.fieldAt
      rw [Sem.run_bind, run_underlying hu w]
      simp [Result.andThen, hf, Instr.sureAddr, fieldPlace, Sem.run_bind, h0, addr_add, ho]
    refine ⟨.pointer (some ⟨g, off, none⟩), ?_, rfl⟩
    have he : e x = .pointer (some ⟨g, k, none⟩) := he
    unfold execOp
    simp only [ho', he]
    rw [Sem.run_bind, h1]
    rfl) h
theorem s_cell {t t2 : TypeId} {x : Operand} {g k : Nat} {cs : Array Value} {v : Value} {R : Prd} (ho : o.op = .load t x) (hx : Has ws a0 Γ x (Is (.pointer (some ⟨g, k, none⟩)))) (hm : (g, cs, t2) ∈ L) (hc : cs[k]? = some v) (hag : ∀ w : World, (isAgg t).run Tryz.prog w = .ok false w)
    (hst : Stb R) (hr : ∀ w, Below ws.heap.size ws w → R w v) (h : softW Tryz.prog B w0 ws L a0 K n l ((o.dst, R) :: Γ)) : softW Tryz.prog B w0 ws L a0 K (n + 1) (o :: l) Γ :=
  s_val (x := x) (A := Is (.pointer (some ⟨g, k, none⟩))) hst (by rw [ho]; exact Array.mem_singleton_self x) hx (fun w e hw hb he => by
    have hcell : w.cell? ⟨g, k, none⟩ = some v := (cell_of_row w g k cs t2 _ (hw.row _ hm).2).trans hc
    have h1 : (Instr.loadAt t (.pointer (some ⟨g, k, none⟩))).run Tryz.prog w = .ok v w := by
      simp [Instr.loadAt, Instr.sureAddr, loadVar, Sem.run_bind, hag, run_load, hcell]
    refine ⟨v, ?_, hr w hb⟩
    have he : e x = .pointer (some ⟨g, k, none⟩) := he
    unfold execOp
    simp only [ho, he]
    rw [Sem.run_bind, h1]
    rfl) h
theorem s_ldq {t2 : TypeId} {x : Operand} {g k : Nat} {cs : Array Value} {v : Value} {u : Nat} (ho : o.op = .load 29 x) (hx : Has ws a0 Γ x (Is (.pointer (some ⟨g, k, none⟩)))) (hm : (g, cs, t2) ∈ L) (hc : cs[k]? = some v) (hq : QV ws v u)
    (h : softW Tryz.prog B w0 ws L a0 K n l ((o.dst, QVp u) :: Γ)) : softW Tryz.prog B w0 ws L a0 K (n + 1) (o :: l) Γ :=
  s_cell ho hx hm hc isAgg_q (stb_q u) (fun _ hb => hq.below hb) h
theorem s_lds {t2 : TypeId} {x : Operand} {g k : Nat} {cs : Array Value} {s : ByteArray} (ho : o.op = .load 9 x) (hx : Has ws a0 Γ x (Is (.pointer (some ⟨g, k, none⟩)))) (hm : (g, cs, t2) ∈ L) (hc : cs[k]? = some (.string s))
    (h : softW Tryz.prog B w0 ws L a0 K n l ((o.dst, Is (.string s)) :: Γ)) : softW Tryz.prog B w0 ws L a0 K (n + 1) (o :: l) Γ :=
  s_cell ho hx hm hc isAgg_str (stb_is _) (fun _ _ => rfl) h
def isSA : TypeDesc → Bool
  | .struct _ => true
  | .array _ _ => true
  | _ => false
theorem s_ldw {t t2 : TypeId} {x : Operand} {g : Nat} {cs : Array Value} {d : TypeDesc} {R : Prd} (ho : o.op = .load t x) (hx : Has ws a0 Γ x (Is (.pointer (some ⟨g, 0, none⟩)))) (hm : (g, cs, t2) ∈ L)
    (hu : Tryz.prog.underlying t = some d) (hd : isSA d = true) (hi : (Tryz.prog.info? t).map (·.size) = some cs.size)
    (hst : Stb R) (hr : ∀ w, Below ws.heap.size ws w → R w (.agg cs)) (h : softW Tryz.prog B w0 ws L a0 K n l ((o.dst, R) :: Γ)) : softW Tryz.prog B w0 ws L a0 K (n + 1) (o :: l) Γ :=
  s_val (x := x) (A := Is (.pointer (some ⟨g, 0, none⟩))) hst (by rw [ho]; exact Array.mem_singleton_self x) hx (fun w e hw hb he => by
    have h1 := run_load_part (P := Tryz.prog) (w := w) (k := 0) (vs := cs) (hw.row _ hm).2 hu (by cases d <;> first | rfl | cases hd) hi (fun j _ => by rw [Nat.zero_add])
    refine ⟨.agg cs, ?_, hr w hb⟩
    have he : e x = .pointer (some ⟨g, 0, none⟩) := he
    unfold execOp
    simp only [ho, he]
    rw [Sem.run_bind, h1]
    rfl) h
theorem s_ldp {t2 : TypeId} {x : Operand} {g : Nat} {cs : Array Value} {A : Ec.Pt Ec.P} (ho : o.op = .load 31 x) (hx : Has ws a0 Γ x (Is (.pointer (some ⟨g, 0, none⟩)))) (hm : (g, cs, t2) ∈ L) (hp : PtC ws cs A)
    (h : softW Tryz.prog B w0 ws L a0 K n l ((o.dst, PtV A) :: Γ)) : softW Tryz.prog B w0 ws L a0 K (n + 1) (o :: l) Γ :=
  s_ldw ho hx hm Tryz.underlying31 rfl (pt_info hp.size) (stb_pt A) (fun _ hb => ⟨cs, rfl, hp.below hb⟩) h
theorem s_ldl {t2 : TypeId} {x : Operand} {g : Nat} {cs : Array Value} {j : Ec.Jac Ec.P} (ho : o.op = .load 103 x) (hx : Has ws a0 Γ x (Is (.pointer (some ⟨g, 0, none⟩)))) (hm : (g, cs, t2) ∈ L) (hp : LnC ws cs j)
    (h : softW Tryz.prog B w0 ws L a0 K n l ((o.dst, LnV j) :: Γ)) : softW Tryz.prog B w0 ws L a0 K (n + 1) (o :: l) Γ :=
  s_ldw ho hx hm Tryz.underlying103 rfl (ln_info hp.size) (stb_ln j) (fun _ hb => ⟨cs, rfl, hp.below hb⟩) h
theorem exec_call {f : FuncId} {xs : List Operand} {ats : Array TypeId} {fn : Func} {c : Code} {e : Operand → Value} {w : World} {o : Oper} (ho : o.op = .call { callee := .value (.func f), args := xs.toArray, argTypes := ats }) (hf : Tryz.prog.funcs[f]? = some fn) (hname : (fn.name == "runtime.NumGoroutine") = false) (hb : fn.body = some c) (hfun : e (.func f) = a0.eval (.func f)) :
    (execOp e o).run Tryz.prog w = .ok (.enter f (xs.map e).toArray) w := by
  have h1 : fn.name ≠ "runtime.NumGoroutine" := by simpa using hname
  have e1 : execOp e o = callFunc f (xs.map e).toArray := by
    unfold execOp
    simp only [ho, resolve, hfun]
    show callFunc f (#[] ++ xs.toArray.map e ++ #[]) = _
    simp
  rw [e1]
  simp [callFunc, hf, h1, hb]
theorem s_call {f : FuncId} {xs : List Operand} {ats : Array TypeId} {fn : Func} {c : Code} {R : Prd} (ho : o.op = .call { callee := .value (.func f), args := xs.toArray, argTypes := ats }) (hf : Tryz.prog.funcs[f]? = some fn) (hname : (fn.name == "runtime.NumGoroutine") = false) (hb : fn.body = some c) (hst : Stb R)
    (hc : ∀ (w : World) (e : Operand → Value), Below ws.heap.size ws w → (∀ x, x ∈ xs → AtE a0 Γ w x (e x)) → Calls Tryz.prog f (xs.map e).toArray w fun en w' => ∃ v, en = .returned v ∧ R w' v ∧ Below w.heap.size w w')
    (h : softW Tryz.prog B w0 ws L a0 K n l ((o.dst, R) :: Γ)) : softW Tryz.prog B w0 ws L a0 K (n + 1) (o :: l) Γ :=
  s_any hst (fun w e _ hbl hat => by
    have hmem : ∀ x, x ∈ xs → x ∈ o.op.operands := fun x hx => by
      rw [ho]
      show x ∈ #[Operand.func f] ++ xs.toArray
      exact Array.mem_append.2 (Or.inr (by simpa using hx))
    have hfun : e (.func f) = a0.eval (.func f) := hat (.func f) (by
      rw [ho]
      show Operand.func f ∈ #[Operand.func f] ++ xs.toArray
      exact Array.mem_append.2 (Or.inl (Array.mem_singleton_self _)))
    rw [exec_call (a0 := a0) ho hf hname hb hfun]
    exact ⟨rfl, hc w e hbl fun x hx => hat x (hmem x hx)⟩) h
theorem s_call1 {f : FuncId} {x : Operand} {ats : Array TypeId} {fn : Func} {c : Code} {A R : Prd} (ho : o.op = .call { callee := .value (.func f), args := [x].toArray, argTypes := ats }) (hf : Tryz.prog.funcs[f]? = some fn) (hname : (fn.name == "runtime.NumGoroutine") = false) (hb : fn.body = some c) (hst : Stb R)
    (hx : Has ws a0 Γ x A) (hc : ∀ (w : World) (v : Value), A w v → Calls Tryz.prog f #[v] w fun en w' => ∃ u, en = .returned u ∧ R w' u ∧ Below w.heap.size w w')
    (h : softW Tryz.prog B w0 ws L a0 K n l ((o.dst, R) :: Γ)) : softW Tryz.prog B w0 ws L a0 K (n + 1) (o :: l) Γ :=
  s_call ho hf hname hb hst (fun w e hbl hat => hc w (e x) (hx w _ hbl (hat x (List.Mem.head _)))) h
theorem s_call2 {f : FuncId} {x y : Operand} {ats : Array TypeId} {fn : Func} {c : Code} {A A' R : Prd} (ho : o.op = .call { callee := .value (.func f), args := [x, y].toArray, argTypes := ats }) (hf : Tryz.prog.funcs[f]? = some fn) (hname : (fn.name == "runtime.NumGoroutine") = false) (hb : fn.body = some c) (hst : Stb R)
    (hx : Has ws a0 Γ x A) (hy : Has ws a0 Γ y A') (hc : ∀ (w : World) (v u : Value), A w v → A' w u → Calls Tryz.prog f #[v, u] w fun en w' => ∃ u, en = .returned u ∧ R w' u ∧ Below w.heap.size w w')
    (h : softW Tryz.prog B w0 ws L a0 K n l ((o.dst, R) :: Γ)) : softW Tryz.prog B w0 ws L a0 K (n + 1) (o :: l) Γ :=
  s_call ho hf hname hb hst (fun w e hbl hat => hc w (e x) (e y) (hx w _ hbl (hat x (List.Mem.head _))) (hy w _ hbl (hat y (List.Mem.tail _ (List.Mem.head _))))) h
theorem s_callc {f : FuncId} {cv : Value} {y : Operand} {ats : Array TypeId} {fn : Func} {c : Code} {A' R : Prd} (ho : o.op = .call { callee := .value (.func f), args := [.const cv, y].toArray, argTypes := ats }) (hf : Tryz.prog.funcs[f]? = some fn) (hname : (fn.name == "runtime.NumGoroutine") = false) (hb : fn.body = some c) (hst : Stb R)
    (hy : Has ws a0 Γ y A') (hc : ∀ (w : World) (u : Value), A' w u → Calls Tryz.prog f #[cv, u] w fun en w' => ∃ u, en = .returned u ∧ R w' u ∧ Below w.heap.size w w')
    (h : softW Tryz.prog B w0 ws L a0 K n l ((o.dst, R) :: Γ)) : softW Tryz.prog B w0 ws L a0 K (n + 1) (o :: l) Γ :=
  s_call ho hf hname hb hst (fun w e hbl hat => by
    have h1 : e (.const cv) = cv := hat (.const cv) (List.Mem.head _)
    have h2 := hc w (e y) (hy w _ hbl (hat y (List.Mem.tail _ (List.Mem.head _))))
    rw [← h1] at h2
    show Calls Tryz.prog f #[e (.const cv), e y] w _
    rw [h1] at h2 ⊢
    exact h2) h
theorem len_small {c : Nat} (h0 : 0 < c) (h : c < 65536) : 1 = Dg.len DB c := by
  symm
  refine Dg.len_unique DB2 (by rw [Nat.pow_one, DB_eq]; exact h) (Or.inr ?_)
  show 0 < Dg.dg DB c 0
  unfold Dg.dg
  rw [Nat.pow_zero, Nat.div_one, DB_eq, Nat.mod_eq_of_lt h]; exact h0
theorem lit_q {c : Nat} (h0 : 0 < c) (h : c < 65536) (w : World) : QV (w.alloc (.cells #[.int .u32 (c : Nat)] 64)) (.slice (some ⟨w.heap.size, 0, none⟩) 1 1) c := by
  refine ⟨_, _, _, rfl, QN.lit ?_ (len_small h0 h) (by decide), by decide⟩
  have : dl c 1 = [c] := by
    unfold dl
    simp [Dg.dg, DB_eq, Nat.mod_eq_of_lt h]
  rw [this]; rfl
theorem s_lit {c : Nat} (ho : o.op = .buildSlice 29 1 #[(0, .const (.int .u32 (c : Nat)))]) (h0 : 0 < c) (hc : c < 65536)
    (h : softW Tryz.prog B w0 ws L a0 K n l ((o.dst, QVp c) :: Γ)) : softW Tryz.prog B w0 ws L a0 K (n + 1) (o :: l) Γ :=
  s_any (stb_q c) (fun w e _ _ hat => by
    have he : e (.const (.int .u32 (c : Nat))) = .int .u32 (c : Nat) := hat (.const (.int .u32 (c : Nat))) (by
      rw [ho]
      exact Array.mem_singleton_self _)
    obtain ⟨i, hi, hz0, hz1, hz2⟩ := info_parts qinfo32
    have h1 : (Instr.buildSlice 29 1 #[(0, Value.int .u32 (c : Nat))]).run Tryz.prog w = .ok (.slice (some ⟨w.heap.size, 0, none⟩) 1 1) (w.alloc (.cells #[.int .u32 (c : Nat)] 64)) :=
      run_buildSlice w _ _ 1 _ _ i (.int .u32 0) Tryz.underlying29 hi hz0 (by rw [hz1]; decide) (by rw [hz1]; decide) (by rw [hz1]; kernel_rfl)
    unfold execOp
    simp only [ho]
    have h2 : (Instr.buildSlice 29 1 ((#[(0, .const (.int .u32 (c : Nat)))] : Array (Nat × Operand)).map fun p => (p.1, e p.2))).run Tryz.prog w = .ok (.slice (some ⟨w.heap.size, 0, none⟩) 1 1) (w.alloc (.cells #[.int .u32 (c : Nat)] 64)) := by
      rw [← h1]; simp [he]
    rw [Sem.run_bind, h2]
    exact ⟨lit_q h0 hc w, (Below.refl _ _).alloc (Nat.le_refl _) _⟩) h
theorem s_litF (x : Ec.F) (c : Nat) (ho : o.op = .buildSlice 29 1 #[(0, .const (.int .u32 (c : Nat)))]) (h0 : 0 < c) (hc : c < 65536) (hx : x.val = c)
    (h : softW Tryz.prog B w0 ws L a0 K n l ((o.dst, QVp x.val) :: Γ)) : softW Tryz.prog B w0 ws L a0 K (n + 1) (o :: l) Γ :=
  s_lit ho h0 hc (by rw [hx] at h; exact h)
theorem s_bpt {x y : Operand} {X Y : Ec.F} (ho : o.op = .build 31 #[(1, x), (2, y)]) (hx : Has ws a0 Γ x (QVp X.val)) (hy : Has ws a0 Γ y (QVp Y.val))
    (h : softW Tryz.prog B w0 ws L a0 K n l ((o.dst, PtV (.at X Y)) :: Γ)) : softW Tryz.prog B w0 ws L a0 K (n + 1) (o :: l) Γ :=
  s_any (stb_pt _) (fun w e _ hb hat => by
    have h1 : QV w (e x) X.val := hx w _ hb (hat x (by rw [ho]; exact Array.mem_def.2 (List.Mem.head _)))
    have h2 : QV w (e y) Y.val := hy w _ hb (hat y (by rw [ho]; exact Array.mem_def.2 (List.Mem.tail _ (List.Mem.head _))))
    have h3 : (Instr.build 31 ((#[(1, x), (2, y)] : Array (Nat × Operand)).map fun p => (p.1, e p.2))).run Tryz.prog w = .ok (.agg #[.bool false, e x, e y]) w := run_build w _ _ _ (by simpa using built_at h1 h2)
    unfold execOp
    simp only [ho]
    rw [Sem.run_bind, h3]
    exact ⟨⟨_, rfl, _, _, rfl, h1, h2⟩, Below.refl _ _⟩) h
theorem s_bln {x y z : Operand} {j : Ec.Jac Ec.P} (ho : o.op = .build 103 #[(0, x), (1, y), (2, z)]) (hx : Has ws a0 Γ x (QVp j.x.val)) (hy : Has ws a0 Γ y (QVp j.y.val)) (hz : Has ws a0 Γ z (QVp j.z.val))
    (h : softW Tryz.prog B w0 ws L a0 K n l ((o.dst, LnV j) :: Γ)) : softW Tryz.prog B w0 ws L a0 K (n + 1) (o :: l) Γ :=
  s_any (stb_ln _) (fun w e _ hb hat => by
    have h1 : QV w (e x) j.x.val := hx w _ hb (hat x (by rw [ho]; exact Array.mem_def.2 (List.Mem.head _)))
    have h2 : QV w (e y) j.y.val := hy w _ hb (hat y (by rw [ho]; exact Array.mem_def.2 (List.Mem.tail _ (List.Mem.head _))))
    have h4 : QV w (e z) j.z.val := hz w _ hb (hat z (by rw [ho]; exact Array.mem_def.2 (List.Mem.tail _ (List.Mem.tail _ (List.Mem.head _)))))
    have h3 : (Instr.build 103 ((#[(0, x), (1, y), (2, z)] : Array (Nat × Operand)).map fun p => (p.1, e p.2))).run Tryz.prog w = .ok (.agg #[e x, e y, e z]) w := run_build w _ _ _ (by simpa using built_ln h1 h2 h4)
    unfold execOp
    simp only [ho]
    rw [Sem.run_bind, h3]
    exact ⟨⟨_, rfl, _, _, _, rfl, h1, h2, h4⟩, Below.refl _ _⟩) h
end
end Go.Proofs.YtaggpodckafbgaaGreatDoor
/- The reference's points: Opposite, Same (layer 5): the walks. -/
namespace Go.Proofs.YtaggpodckafbgaaGreatDoor
open Go.RowKit
def RetPt (w : World) (A : Ec.Pt Ec.P) (e : Ending) (w' : World) : Prop := ∃ v, e = .returned v ∧ PtV A w' v ∧ Below w.heap.size w w'
theorem c3_0 {x y z : Value} : (#[x, y, z] : Array Value)[0]? = some x := rfl
theorem c3_1 {x y z : Value} : (#[x, y, z] : Array Value)[1]? = some y := rfl
theorem c2_0 {x y : ByteArray} : (kvc x y)[0]? = some (.string x) := rfl
theorem c2_1 {x y : ByteArray} : (kvc x y)[1]? = some (.string y) := rfl
theorem c3_2 {x y z : Value} : (#[x, y, z] : Array Value)[2]? = some z := rfl
section
variable {B : Nat} {w0 ws : World} {L : List (Nat × Array Value × TypeId)} {a0 : Act} {K : Act → World → Prop} {n : Nat} {l : List Oper} {o : Oper} {Γ : Env}
theorem sFa {st : TypeId} {x : Operand} {i g k off : Nat} {fs : Array Field} {f : Field} (hu : Tryz.prog.underlying st = some (.struct fs))
    (h : softW Tryz.prog B w0 ws L a0 K n l ((o.dst, Is (.pointer (some ⟨g, off, none⟩))) :: Γ)) (ho' : o.op = .fieldAddr st x i := by rfl) (hx : Has ws a0 Γ x (Is (.pointer (some ⟨g, k, none⟩))) := by exact fun _ _ _ h => h) (hf : fs[i]? = some f := by rfl)
    (hs : ∃ s, (Tryz.prog.info? f.type).map (·.size) = some (s + 1) := by exact ⟨0, by first | exact q_info | exact bool_info | exact str_info⟩) (ho : k + f.offset = off := by rfl) : softW Tryz.prog B w0 ws L a0 K (n + 1) (o :: l) Γ := s_fa ho' hx hu hf hs ho h
theorem sLq {t2 : TypeId} {x : Operand} {g k : Nat} {cs : Array Value} {v : Value} {u : Nat} (h : softW Tryz.prog B w0 ws L a0 K n l ((o.dst, QVp u) :: Γ)) (ho : o.op = .load 29 x := by rfl) (hx : Has ws a0 Γ x (Is (.pointer (some ⟨g, k, none⟩))) := by exact fun _ _ _ h => h) (hm : (g, cs, t2) ∈ L := by repeat (first | exact pzH | refine pzM ?_))
    (hc : cs[k]? = some v := by first | exact c3_0 | exact c3_1 | exact c3_2) (hq : QV ws v u := by assumption) : softW Tryz.prog B w0 ws L a0 K (n + 1) (o :: l) Γ := s_ldq ho hx hm hc hq h
theorem sLs {t2 : TypeId} {x : Operand} {g k : Nat} {cs : Array Value} {s : ByteArray} (h : softW Tryz.prog B w0 ws L a0 K n l ((o.dst, Is (.string s)) :: Γ)) (ho : o.op = .load 9 x := by rfl) (hx : Has ws a0 Γ x (Is (.pointer (some ⟨g, k, none⟩))) := by exact fun _ _ _ h => h) (hm : (g, cs, t2) ∈ L := by repeat (first | exact pzH | refine pzM ?_))
    (hc : cs[k]? = some (.string s) := by first | exact c2_0 | exact c2_1) : softW Tryz.prog B w0 ws L a0 K (n + 1) (o :: l) Γ := s_lds ho hx hm hc h
theorem sLp {t2 : TypeId} {x : Operand} {g : Nat} {cs : Array Value} {A : Ec.Pt Ec.P} (h : softW Tryz.prog B w0 ws L a0 K n l ((o.dst, PtV A) :: Γ)) (ho : o.op = .load 31 x := by rfl) (hx : Has ws a0 Γ x (Is (.pointer (some ⟨g, 0, none⟩))) := by exact fun _ _ _ h => h) (hm : (g, cs, t2) ∈ L := by repeat (first | exact pzH | refine pzM ?_)) (hp : PtC ws cs A := by assumption) :
    softW Tryz.prog B w0 ws L a0 K (n + 1) (o :: l) Γ := s_ldp ho hx hm hp h
theorem sLl {t2 : TypeId} {x : Operand} {g : Nat} {cs : Array Value} {j : Ec.Jac Ec.P} (h : softW Tryz.prog B w0 ws L a0 K n l ((o.dst, LnV j) :: Γ)) (ho : o.op = .load 103 x := by rfl) (hx : Has ws a0 Γ x (Is (.pointer (some ⟨g, 0, none⟩))) := by exact fun _ _ _ h => h) (hm : (g, cs, t2) ∈ L := by repeat (first | exact pzH | refine pzM ?_)) (hp : LnC ws cs j := by assumption) :
    softW Tryz.prog B w0 ws L a0 K (n + 1) (o :: l) Γ := s_ldl ho hx hm hp h
theorem sMq {x : Operand} {v : Value} {u : Nat} (h : softW Tryz.prog B w0 ws L a0 K n l ((o.dst, QVp u) :: Γ)) (ho : o.op = .move x := by rfl) (hx : ∀ w y, AtE a0 Γ w x y → y = v := by exact fun _ _ h => h) (hq : QV ws v u := by assumption) : softW Tryz.prog B w0 ws L a0 K (n + 1) (o :: l) Γ := s_move ho (stb_q _) (has_fix hx hq) h
end
theorem RetPt.mk {w0 w : World} {A : Ec.Pt Ec.P} {cs : Array Value} (h : PtC w cs A) (hb : Below w0.heap.size w0 w) : RetPt w0 A (.returned (.agg cs)) w := ⟨_, rfl, ⟨cs, rfl, h⟩, hb⟩
theorem inf_cells : (#[.bool true, nilS, nilS] : Array Value).all (·.oneCell') = true := by simp [nilS, Value.oneCell']
theorem zpt_cells : zpt.all (·.oneCell') = true := by simp [zpt, nilS, Value.oneCell']
theorem zln_cells : zln.all (·.oneCell') = true := by simp [zln, nilS, Value.oneCell']
theorem pt_inf (w : World) : PtC w #[.bool true, nilS, nilS] .inf := rfl
theorem wQ_end {B : Nat} {w0 w : World} {L : List (Nat × Array Value × TypeId)} {a : Act} {fn : Func} {R : Ending → World → Prop} {p : Tmp} {g : Nat} {cs : Array Value} (hf : fn.results = #[.cell p 31]) (h : Rws B w0 w L) (hp : a.tmps.getD p undef = .pointer (some ⟨g, 0, none⟩)) (hm : (g, cs, 31) ∈ L) (hs : cs.size = 3)
    (hdef : a.defers = []) (hR : Below B w0 w → R (.returned (.agg cs)) w) : bodyPost Tryz.prog fn R .ret a w :=
  bodyPost_rws hf h g hp cs _ hm _ Tryz.underlying31 rfl (pt_info hs) hdef hR
set_option maxRecDepth 100000 in
theorem ropp_any (V : Value) (A : Ec.Pt Ec.P) (w : World) (hV : PtV A w V) : Calls Tryz.prog 78 #[V] w (RetPt w A.neg) := by
  obtain ⟨cs, rfl, hc⟩ := hV
  have hR0 := Rws.start w
  cases A with
  | inf =>
    obtain rfl : cs = #[.bool true, nilS, nilS] := hc
    go_enter Tryz.func78, Tryz.ntmps78
    go_wp2_with (first | (refine wpList_box_rws rfl _ _ (by rfl) (by assumption) _ rfl ?_; intro gp w1 hR) | (refine wpList_alloc_rws rfl _ (by rfl) (by assumption) _ (by first | exact zero_pt | exact zero_ln | exact zero_key) ?_; intro gr w1 hR) | (refine wF_load rfl (by rfl) (by assumption) rfl (by repeat (first | exact pzH | refine pzM ?_)) (by first | exact c3_0 | exact c3_1 | exact c3_2 | exact c2_0 | exact c2_1) (by first | exact isAgg_b | exact isAgg_q | exact isAgg_str) ?_) | (refine wQ_load rfl (by rfl) (by assumption) rfl (by repeat (first | exact pzH | refine pzM ?_)) (by first | rfl | exact PtC.size (by assumption)) ?_) | (refine wQ_loadL rfl (by rfl) (by assumption) rfl (by repeat (first | exact pzH | refine pzM ?_)) (by first | rfl | exact LnC.size (by assumption)) ?_) | (refine wB_store rfl (by rfl) (by assumption) rfl rfl (by repeat (first | exact Pick.here | apply Pick.there)) (by first | exact pt_info (by rfl) | exact pt_info (PtC.size (by assumption)) | exact ln_info (by rfl) | exact ln_info (LnC.size (by assumption)) | exact key_info (by rfl)) (by first | rfl | (rw [PtC.size (by assumption)]; rfl) | (rw [LnC.size (by assumption)]; rfl)) (by first | rfl | exact inf_cells | exact zpt_cells | exact zln_cells | exact PtC.cells (by assumption) | exact LnC.cells (by assumption)) ?_; intro w1 hR hbt hrr))
    exact wQ_end Tryz.results78 (by assumption) rfl (List.Mem.head _) rfl rfl fun hb => RetPt.mk (pt_inf _) hb
  | «at» x y =>
    obtain ⟨X, Y, rfl, hX, hY⟩ := hc
    go_enter Tryz.func78, Tryz.ntmps78
    go_wp2_with (first | (refine wpList_box_rws rfl _ _ (by rfl) (by assumption) _ rfl ?_; intro gp w1 hR) | (refine wpList_alloc_rws rfl _ (by rfl) (by assumption) _ (by first | exact zero_pt | exact zero_ln | exact zero_key) ?_; intro gr w1 hR) | (refine wF_load rfl (by rfl) (by assumption) rfl (by repeat (first | exact pzH | refine pzM ?_)) (by first | exact c3_0 | exact c3_1 | exact c3_2 | exact c2_0 | exact c2_1) (by first | exact isAgg_b | exact isAgg_q | exact isAgg_str) ?_) | (refine wQ_load rfl (by rfl) (by assumption) rfl (by repeat (first | exact pzH | refine pzM ?_)) (by first | rfl | exact PtC.size (by assumption)) ?_) | (refine wQ_loadL rfl (by rfl) (by assumption) rfl (by repeat (first | exact pzH | refine pzM ?_)) (by first | rfl | exact LnC.size (by assumption)) ?_))
    have hX := hX.below (Rws.below (by assumption))
    have hY := hY.below (Rws.below (by assumption))
    refine wp_region_soft 6 (by kernel_rfl) (by kernel_rfl) (by rfl) (by assumption) ?_
    iterate 4 (first | (refine sFa Tryz.underlying31 ?_) | (refine sFa Tryz.underlying103 ?_) | (refine sFa Tryz.underlying23 ?_) | (refine sLq ?_) | (refine sLs ?_) | (refine sLp ?_) | (refine sLl ?_) | (refine sMq ?_))
    refine s_callc (by rfl) Tryz.func76 (by kernel_rfl) rfl (stb_q _) (by exact fun _ _ _ h => h) (fun w v h => neg_v h) ?_
    refine s_bpt (by rfl) (by exact fun _ _ _ h => h) (by exact fun _ _ _ h => h) ?_
    intro w2 hR2 hb2 v1 h1 v2 h2 v3 h3 v4 h4 v5 h5 v6 h6
    simp only [softEnd, Act.put, List.setIfInBounds_toArray, List.set_cons_succ, List.set_cons_zero, List.drop_succ_cons, List.drop_zero]
    obtain ⟨cs6, rfl, hc6⟩ := h6
    clear h1 h2 h3 h4 h5
    go_wp2_with (refine wB_store rfl (by rfl) (by assumption) rfl rfl (by repeat (first | exact Pick.here | apply Pick.there)) (by exact pt_info hc6.size) (by rw [hc6.size]; rfl) (by exact hc6.cells) ?_; intro w3 hR hbt hrr)
    exact wQ_end Tryz.results78 hR rfl (List.Mem.head _) hc6.size rfl fun hb => RetPt.mk (hc6.but hbt hrr zpt_noint) hb
def sameB : Ec.Pt Ec.P → Ec.Pt Ec.P → Bool
  | .inf, .inf => true
  | .at x y, .at x' y' => decide (x = x') && decide (y = y')
  | _, _ => false
set_option maxRecDepth 100000 in
theorem rsame_any (V U : Value) (A A' : Ec.Pt Ec.P) (w : World) (hV : PtV A w V) (hU : PtV A' w U) : Calls Tryz.prog 77 #[V, U] w fun e w' => e = .returned (.bool (sameB A A')) ∧ Below w.heap.size w w' := by
  obtain ⟨cs, rfl, hc⟩ := hV
  obtain ⟨cu, rfl, hu⟩ := hU
  have hR0 := Rws.start w
  cases A with
  | inf =>
    obtain rfl : cs = #[.bool true, nilS, nilS] := hc
    cases A' with
    | inf =>
      obtain rfl : cu = #[.bool true, nilS, nilS] := hu
      go_enter Tryz.func77, Tryz.ntmps77
      go_upto_region 1 with (first | (refine wpList_box_rws rfl _ _ (by rfl) (by assumption) _ rfl ?_; intro gp w1 hR) | (refine wpList_alloc_rws rfl _ (by rfl) (by assumption) _ (by first | exact zero_pt | exact zero_ln | exact zero_key) ?_; intro gr w1 hR) | (refine wF_load rfl (by rfl) (by assumption) rfl (by repeat (first | exact pzH | refine pzM ?_)) (by first | exact c3_0 | exact c3_1 | exact c3_2 | exact c2_0 | exact c2_1) (by first | exact isAgg_b | exact isAgg_q | exact isAgg_str) ?_) | (refine wQ_load rfl (by rfl) (by assumption) rfl (by repeat (first | exact pzH | refine pzM ?_)) (by first | rfl | exact PtC.size (by assumption)) ?_) | (refine wQ_loadL rfl (by rfl) (by assumption) rfl (by repeat (first | exact pzH | refine pzM ?_)) (by first | rfl | exact LnC.size (by assumption)) ?_))
      have k0 := cell_of_row w1 _ 0 _ _ _ (hR.row _ (List.Mem.head _)).2
      have k1 := cell_of_row w1 _ 0 _ _ _ (hR.row _ (List.Mem.tail _ (List.Mem.head _))).2
      simp only [c3_0] at k0 k1
      go_wp2_with fail
      go_ret
      exact ⟨rfl, Rws.below (by assumption)⟩
    | «at» x' y' =>
      obtain ⟨X', Y', rfl, hX', hY'⟩ := hu
      go_enter Tryz.func77, Tryz.ntmps77
      go_upto_region 1 with (first | (refine wpList_box_rws rfl _ _ (by rfl) (by assumption) _ rfl ?_; intro gp w1 hR) | (refine wpList_alloc_rws rfl _ (by rfl) (by assumption) _ (by first | exact zero_pt | exact zero_ln | exact zero_key) ?_; intro gr w1 hR) | (refine wF_load rfl (by rfl) (by assumption) rfl (by repeat (first | exact pzH | refine pzM ?_)) (by first | exact c3_0 | exact c3_1 | exact c3_2 | exact c2_0 | exact c2_1) (by first | exact isAgg_b | exact isAgg_q | exact isAgg_str) ?_) | (refine wQ_load rfl (by rfl) (by assumption) rfl (by repeat (first | exact pzH | refine pzM ?_)) (by first | rfl | exact PtC.size (by assumption)) ?_) | (refine wQ_loadL rfl (by rfl) (by assumption) rfl (by repeat (first | exact pzH | refine pzM ?_)) (by first | rfl | exact LnC.size (by assumption)) ?_))
      have k0 := cell_of_row w1 _ 0 _ _ _ (hR.row _ (List.Mem.head _)).2
      have k1 := cell_of_row w1 _ 0 _ _ _ (hR.row _ (List.Mem.tail _ (List.Mem.head _))).2
      simp only [c3_0] at k0 k1
      go_wp2_with fail
      go_ret
      exact ⟨rfl, Rws.below (by assumption)⟩
  | «at» x y =>
    obtain ⟨X, Y, rfl, hX, hY⟩ := hc
    cases A' with
    | inf =>
      obtain rfl : cu = #[.bool true, nilS, nilS] := hu
      go_enter Tryz.func77, Tryz.ntmps77
      go_upto_region 1 with (first | (refine wpList_box_rws rfl _ _ (by rfl) (by assumption) _ rfl ?_; intro gp w1 hR) | (refine wpList_alloc_rws rfl _ (by rfl) (by assumption) _ (by first | exact zero_pt | exact zero_ln | exact zero_key) ?_; intro gr w1 hR) | (refine wF_load rfl (by rfl) (by assumption) rfl (by repeat (first | exact pzH | refine pzM ?_)) (by first | exact c3_0 | exact c3_1 | exact c3_2 | exact c2_0 | exact c2_1) (by first | exact isAgg_b | exact isAgg_q | exact isAgg_str) ?_) | (refine wQ_load rfl (by rfl) (by assumption) rfl (by repeat (first | exact pzH | refine pzM ?_)) (by first | rfl | exact PtC.size (by assumption)) ?_) | (refine wQ_loadL rfl (by rfl) (by assumption) rfl (by repeat (first | exact pzH | refine pzM ?_)) (by first | rfl | exact LnC.size (by assumption)) ?_))
      have k0 := cell_of_row w1 _ 0 _ _ _ (hR.row _ (List.Mem.head _)).2
      have k1 := cell_of_row w1 _ 0 _ _ _ (hR.row _ (List.Mem.tail _ (List.Mem.head _))).2
      simp only [c3_0] at k0 k1
      go_wp2_with fail
      go_ret
      exact ⟨rfl, Rws.below (by assumption)⟩
    | «at» x' y' =>
      obtain ⟨X', Y', rfl, hX', hY'⟩ := hu
      obtain ⟨b, hbd⟩ : ∃ b, b = sameB (.at x y) (.at x' y') := ⟨_, rfl⟩
      rw [← hbd]
      have HS := Lib.hid (show b = (decide (x = x') && decide (y = y')) from hbd)
      clear hbd
      go_enter Tryz.func77, Tryz.ntmps77
      go_upto_region 1 with (first | (refine wpList_box_rws rfl _ _ (by rfl) (by assumption) _ rfl ?_; intro gp w1 hR) | (refine wpList_alloc_rws rfl _ (by rfl) (by assumption) _ (by first | exact zero_pt | exact zero_ln | exact zero_key) ?_; intro gr w1 hR) | (refine wF_load rfl (by rfl) (by assumption) rfl (by repeat (first | exact pzH | refine pzM ?_)) (by first | exact c3_0 | exact c3_1 | exact c3_2 | exact c2_0 | exact c2_1) (by first | exact isAgg_b | exact isAgg_q | exact isAgg_str) ?_) | (refine wQ_load rfl (by rfl) (by assumption) rfl (by repeat (first | exact pzH | refine pzM ?_)) (by first | rfl | exact PtC.size (by assumption)) ?_) | (refine wQ_loadL rfl (by rfl) (by assumption) rfl (by repeat (first | exact pzH | refine pzM ?_)) (by first | rfl | exact LnC.size (by assumption)) ?_))
      have r0 := (hR.row _ (List.Mem.head _)).2
      have r1 := (hR.row _ (List.Mem.tail _ (List.Mem.head _))).2
      have k00 := cell_of_row w1 _ 0 _ _ _ r0; have k01 := cell_of_row w1 _ 1 _ _ _ r0; have k02 := cell_of_row w1 _ 2 _ _ _ r0
      have k10 := cell_of_row w1 _ 0 _ _ _ r1; have k11 := cell_of_row w1 _ 1 _ _ _ r1; have k12 := cell_of_row w1 _ 2 _ _ _ r1
      simp only [c3_0, c3_1, c3_2] at k00 k01 k02 k10 k11 k12
      clear r0 r1
      have hX := hX.below hR.below; have hY := hY.below hR.below; have hX' := hX'.below hR.below; have hY' := hY'.below hR.below
      go_wp2_with fail
      refine (cmpF_v hX hX').mono ?_
      rintro e w2 ⟨he1, he2, hb2⟩
      have hY := hY.below hb2; have hY' := hY'.below hb2
      have hR2 := hR.call hb2
      clear k00 k01 k02 k10 k11 k12
      have r0 := (hR2.row _ (List.Mem.head _)).2
      have r1 := (hR2.row _ (List.Mem.tail _ (List.Mem.head _))).2
      have k00 := cell_of_row w2 _ 0 _ _ _ r0; have k01 := cell_of_row w2 _ 1 _ _ _ r0; have k02 := cell_of_row w2 _ 2 _ _ _ r0
      have k10 := cell_of_row w2 _ 0 _ _ _ r1; have k11 := cell_of_row w2 _ 1 _ _ _ r1; have k12 := cell_of_row w2 _ 2 _ _ _ r1
      simp only [c3_0, c3_1, c3_2] at k00 k01 k02 k10 k11 k12
      clear r0 r1
      by_cases hx : x = x'
      · obtain rfl := he1 hx
        have HX := Lib.hid hx
        clear he1 he2 hx
        go_wp2_with fail
        refine (cmpF_v hY hY').mono ?_
        rintro e w3 ⟨he1, he2, hb3⟩
        have hR3 := hR2.call hb3
        by_cases hy : y = y'
        · obtain rfl := he1 hy
          have HY := Lib.hid hy
          clear he1 he2 hy
          go_wp2_with fail
          go_ret
          exact ⟨by rw [HS.out, decide_eq_true HX.out, decide_eq_true HY.out]; rfl, hR3.below⟩
        · obtain ⟨c, hc, rfl⟩ := he2 hy
          have HY := Lib.hid hy
          have hcb : (c == 0) = false := by simpa using hc
          clear he1 he2 hy hc
          go_wp2_with fail
          go_ret
          exact ⟨by rw [HS.out, decide_eq_true HX.out, decide_eq_false HY.out]; rfl, hR3.below⟩
      · obtain ⟨c, hc, rfl⟩ := he2 hx
        have HX := Lib.hid hx
        have hcb : (c == 0) = false := by simpa using hc
        clear he1 he2 hx hc
        go_wp2_with fail
        go_ret
        exact ⟨by rw [HS.out, decide_eq_false HX.out]; rfl, hR2.below⟩
end Go.Proofs.YtaggpodckafbgaaGreatDoor
