/- Whole structs in variables of one's own: laws that keep the world a variable (as ec/XRws). -/
import Derived.Test.YthpagppipifgeaaGreatDoorZLA
import Derived.Laws.Tables
import Derived.Laws.ResultCell
namespace Go.Proofs.YthpagppipifgeaaGreatDoor
open Go.RowKit

/-- The call began in w0, with B blocks; the rows of L lie in blocks of its own. -/
structure Rws (B : Nat) (w0 w : World) (L : List (Nat × Array Value × TypeId)) : Prop where
  below : Below B w0 w
  len : B ≤ w.heap.size
  row : ∀ x, x ∈ L → B ≤ x.1 ∧ w.heap[x.1]? = some (.cells x.2.1 x.2.2 (0, 0))
  nd : L.Pairwise fun x y => x.1 ≠ y.1

/-- x is one of L; the others are L'. -/
inductive Pick {α : Type} : List α → α → List α → Prop
  | here {x : α} {l : List α} : Pick (x :: l) x l
  | there {x y : α} {l l' : List α} (h : Pick l x l') : Pick (y :: l) x (y :: l')

theorem Pick.mem {α : Type} {l l' : List α} {x : α} (h : Pick l x l') : x ∈ l := by
  induction h with
  | here => exact List.mem_cons_self
  | there _ ih => exact List.mem_cons_of_mem _ ih

theorem Pick.sub {α : Type} {l l' : List α} {x : α} (h : Pick l x l') : l'.Sublist l := by
  induction h with
  | here => exact List.sublist_cons_self _ _
  | there _ ih => exact ih.cons_cons _

section
variable {B : Nat} {w0 w w' : World} {L : List (Nat × Array Value × TypeId)}

theorem Pick.ne {L' : List (Nat × Array Value × TypeId)} {x : Nat × Array Value × TypeId} (h : Pick L x L') (hp : L.Pairwise fun x y => x.1 ≠ y.1) : ∀ y, y ∈ L' → y.1 ≠ x.1 := by
  induction h with
  | here => exact fun y hy e => (List.pairwise_cons.1 hp).1 y hy e.symm
  | there hpk ih =>
    intro y hy
    rcases List.mem_cons.1 hy with rfl | hy
    · exact (List.pairwise_cons.1 hp).1 _ hpk.mem
    · exact ih (List.pairwise_cons.1 hp).2 y hy

theorem Rws.start (w : World) : Rws w.heap.size w w [] := ⟨Below.refl _ _, Nat.le_refl _, fun _ h => absurd h List.not_mem_nil, List.Pairwise.nil⟩

theorem Rws.lt (h : Rws B w0 w L) {x : Nat × Array Value × TypeId} (hx : x ∈ L) : x.1 < w.heap.size := (Array.getElem?_eq_some_iff.1 (h.row x hx).2).1

/-- Behind a call. -/
theorem Rws.call (h : Rws B w0 w L) (hb : Below w.heap.size w w') : Rws B w0 w' L :=
  ⟨h.below.trans (hb.mono h.len), Nat.le_trans h.len hb.size, fun x hx => ⟨(h.row x hx).1, (hb.block _ (h.lt hx)).trans (h.row x hx).2⟩, h.nd⟩

theorem Rws.drew (h : Rws B w0 w L) : Rws B w0 w.drew L := ⟨h.below.drew, h.len, h.row, h.nd⟩

/-- One row more is known. -/
theorem Rws.add (h : Rws B w0 w L) {g : Nat} {cs : Array Value} {t : TypeId} (hB : B ≤ g) (hg : w.heap[g]? = some (.cells cs t (0, 0))) (hn : ∀ x, x ∈ L → x.1 ≠ g) : Rws B w0 w ((g, cs, t) :: L) :=
  ⟨h.below, h.len, fun x hx => by
    rcases List.mem_cons.1 hx with rfl | hx
    · exact ⟨hB, hg⟩
    · exact h.row x hx, List.pairwise_cons.2 ⟨fun x hx e => hn x hx e.symm, h.nd⟩⟩

theorem Rws.alloc0 (h : Rws B w0 w L) (o : Obj) : Rws B w0 (w.alloc o) L :=
  ⟨h.below.alloc h.len _, by simp; have := h.len; omega, fun x hx => ⟨(h.row x hx).1, (Below.heap_alloc w _ _ (h.lt hx)).trans (h.row x hx).2⟩, h.nd⟩

theorem Rws.alloc (h : Rws B w0 w L) (cs : Array Value) (t : TypeId) : Rws B w0 (w.alloc (.cells cs t)) ((w.heap.size, cs, t) :: L) :=
  (h.alloc0 _).add h.len (heap_alloc_new _ _) fun _ hx => Nat.ne_of_lt (h.lt hx)

theorem Rws.alloc' (h : Rws B w0 w L) {g : Nat} (hg : w.heap.size = g) (cs : Array Value) (t : TypeId) : Rws B w0 (w.alloc (.cells cs t)) ((g, cs, t) :: L) := by
  subst hg; exact h.alloc cs t

theorem Rws.sub (h : Rws B w0 w L) {L' : List (Nat × Array Value × TypeId)} (hs : L'.Sublist L) : Rws B w0 w L' := ⟨h.below, h.len, fun x hx => h.row x (hs.subset hx), h.nd.sublist hs⟩

theorem Rws.set (h : Rws B w0 w L) {g : Nat} {cs : Array Value} {t : TypeId} {L' : List (Nat × Array Value × TypeId)} (hm : Pick L (g, cs, t) L') (cs' : Array Value) :
    Rws B w0 (w.setRow g cs') ((g, cs', t) :: L') := by
  have hg := (h.row _ hm.mem).2
  have hB := (h.row _ hm.mem).1
  have hne := hm.ne h.nd
  simp only at hg hB hne
  refine Rws.add ⟨?_, by rw [size_setRow]; exact h.len, fun x hx => ?_, h.nd.sublist hm.sub⟩ hB ?_ hne
  · refine h.below.trans ⟨rfl, rfl, rfl, by rw [size_setRow]; exact Nat.le_refl _, fun k hk => ?_⟩
    simp only [World.setRow, Array.getElem?_modify]
    rw [if_neg (by omega)]
  · refine ⟨(h.row x (hm.sub.subset hx)).1, ?_⟩
    simp only [World.setRow, Array.getElem?_modify]
    rw [if_neg (fun e => hne x hx e.symm)]
    exact (h.row x (hm.sub.subset hx)).2
  · simp only [World.setRow, Array.getElem?_modify]
    rw [hg]
    rfl

variable {P : Program} {o : Oper} {a : Act} {Q : Exit → Act → World → Prop} {ops : Array Oper} {rest : List Oper}

/-- A struct or an array out of its variable. -/
theorem wpList_load_rws (hgd : o.guard = none) (ty : TypeId) (x : Operand) (ho : o.op = .load ty x) (h : Rws B w0 w L) (g : Nat) (hx : a.eval x = .pointer (some ⟨g, 0, none⟩))
    (cs : Array Value) (t : TypeId) (hm : (g, cs, t) ∈ L) (d : TypeDesc) (hu : P.underlying ty = some d) (hd : (match d with | .struct _ | .array _ _ => true | _ => false) = true) (hi : (P.info? ty).map (·.size) = some cs.size)
    (hK : wpList P ops Q rest (a.put o.dst (.agg cs)) w) : wpList P ops Q (o :: rest) a w :=
  wpList_load_row hgd ty x ho g hx t cs (0, 0) d (h.row _ hm).2 hu hd hi hK

/-- A struct or an array into its variable. -/
theorem wpList_store_rws (hgd : o.guard = none) (ty : TypeId) (x y : Operand) (ho : o.op = .store ty x y) (h : Rws B w0 w L) (g : Nat) (hx : a.eval x = .pointer (some ⟨g, 0, none⟩))
    (new : Array Value) (hy : a.eval y = .agg new) (cs : Array Value) (t : TypeId) (L' : List (Nat × Array Value × TypeId)) (hm : Pick L (g, cs, t) L')
    (hi : (P.info? ty).map (·.size) = some new.size) (hc : cs.size = new.size) (h1 : new.all (·.oneCell') = true) 
    (hK : ∀ w', Rws B w0 w' ((g, new, t) :: L') → wpList P ops Q rest (a.put o.dst undef) w') : wpList P ops Q (o :: rest) a w := by
  refine wpList_plain hgd fun K hKK => ?_
  unfold Oper.wp execOp
  simp only [ho, hx, hy, Instr.storeAt, Instr.sureAddr, Sem.run_bind, Sem.run_pure, Result.andThen_ok, run_storeVar_row w g t ty cs new (h.row _ hm.mem).2 hi hc h1]
  exact hKK _ _ (hK _ (h.set hm new))

/-- A variable of its own is made, with a value in it. -/
theorem wpList_box_rws (hgd : o.guard = none) (ty : TypeId) (x : Operand) (ho : o.op = .box ty x) (h : Rws B w0 w L) (cs : Array Value) (hx : a.eval x = .agg cs)
    (hK : ∀ g w', Rws B w0 w' ((g, cs, ty) :: L) → wpList P ops Q rest (a.put o.dst (.pointer (some ⟨g, 0, none⟩))) w') : wpList P ops Q (o :: rest) a w := by
  refine wpList_plain hgd fun K hKK => ?_
  unfold Oper.wp execOp
  simp only [ho, hx]
  exact hKK _ _ (hK _ _ (h.alloc cs ty))

/-- A variable of its own is made, with its type's zero in it. -/
theorem wpList_alloc_rws (hgd : o.guard = none) (ty : TypeId) (ho : o.op = .alloc ty) (h : Rws B w0 w L) (cs : Array Value) (hz : ∀ w : World, (zeroValue ty).run P w = .ok (.agg cs) w)
    (hK : ∀ g w', Rws B w0 w' ((g, cs, ty) :: L) → wpList P ops Q rest (a.put o.dst (.pointer (some ⟨g, 0, none⟩))) w') : wpList P ops Q (o :: rest) a w := by
  refine wpList_plain hgd fun K hKK => ?_
  unfold Oper.wp execOp
  simp only [ho, Instr.alloc, Sem.run_bind, hz, Result.andThen_ok]
  exact hKK _ _ (hK _ _ (h.alloc cs ty))

/-- A call's end whose result is a struct or an array in a variable. -/
theorem bodyPost_rws {fn : Func} {R : Ending → World → Prop} {p : Tmp} {ty : TypeId} (hf : fn.results = #[.cell p ty]) (h : Rws B w0 w L) (g : Nat) (hp : a.tmps.getD p undef = .pointer (some ⟨g, 0, none⟩))
    (cs : Array Value) (t : TypeId) (hm : (g, cs, t) ∈ L) (d : TypeDesc) (hu : P.underlying ty = some d) (hd : (match d with | .struct _ | .array _ _ => true | _ => false) = true) (hi : (P.info? ty).map (·.size) = some cs.size)
    (hdef : a.defers = []) (hR : Below B w0 w → R (.returned (.agg cs)) w) : bodyPost P fn R .ret a w :=
  bodyPost_ret (results_cell_row hf a.tmps w g t cs (0, 0) d hp (h.row _ hm).2 hu hd hi) hdef (hR h.below)

/-- A call's end with a struct or an array in a variable, and another result. -/
theorem bodyPost_rws2 {fn : Func} {R : Ending → World → Prop} {p u : Tmp} {ty : TypeId} (hf : fn.results = #[.cell p ty, .tmp u]) (h : Rws B w0 w L) (g : Nat) (hp : a.tmps.getD p undef = .pointer (some ⟨g, 0, none⟩))
    (cs : Array Value) (t : TypeId) (hm : (g, cs, t) ∈ L) (d : TypeDesc) (hu : P.underlying ty = some d) (hd : (match d with | .struct _ | .array _ _ => true | _ => false) = true) (hi : (P.info? ty).map (·.size) = some cs.size)
    (v : Value) (hv : a.tmps.getD u undef = v) (hdef : a.defers = []) (hR : Below B w0 w → R (.returned (.tuple #[.agg cs, v])) w) : bodyPost P fn R .ret a w := by
  refine bodyPost_ret (v := .tuple #[.agg cs, v]) ?_ hdef (hR h.below)
  rw [results_cell_tmp hf, hp, hv]
  simp [asAddr, Result.andThen, run_loadVar_row w g t ty cs (0, 0) d (h.row _ hm).2 hu hd hi]

/-- One cell of a row is written. -/
theorem Rws.setc {g : Nat} {cs : Array Value} {t : TypeId} (h : Rws B w0 w ((g, cs, t) :: L)) (j : Nat) (v : Value) : Rws B w0 (w.setCell ⟨g, j, none⟩ v) ((g, cs.setIfInBounds j v, t) :: L) := by
  have h0 := h.row _ (List.Mem.head _)
  have hn := List.pairwise_cons.1 h.nd
  simp only at h0 hn
  have h1 : Rws B w0 w L := h.sub (List.sublist_cons_self _ _)
  refine Rws.add ⟨h1.below.setCell h0.1 v, by rw [World.size_setCell]; exact h1.len, fun x hx => ⟨(h1.row x hx).1, (heap_setCell_other w ⟨g, j, none⟩ x.1 v (fun e => hn.1 x hx e.symm)).trans (h1.row x hx).2⟩, h1.nd⟩ h0.1 (heap_setCell_same w g j cs t v h0.2) (fun x hx e => hn.1 x hx e.symm)
end
end Go.Proofs.YthpagppipifgeaaGreatDoor
