/- Whole structs in variables of one's own: laws that keep the world a variable (as pol/XLRws .. for the seat of Http). -/
import Derived.Test.YtebhiplcoioenaaGreatDoorRows
import Derived.WalkKit
import Derived.WalkSpells
import Derived.WalkLawsBesides
import Derived.WalkSmall
import Derived.Lib.Hide
import Derived.Laws.CopyOwn
import Derived.Laws.AppendOwn
import Derived.Deep.DeepCutAuto
import Derived.Deep.LoopGhost
import Derived.Laws.Tables
import Derived.Laws.ResultCell
import Derived.BigQuiet
namespace Go.Proofs.YtebhiplcoioenaaGreatDoor
open Go.RowKit

/-- The greatest length of a string that came in. -/
def SB : Nat := 140737488351232
theorem SB_eq : SB = 140737488351232 := rfl
/-- The greatest length there is. -/
def MX : Nat := 9223372036854775807
theorem MX_eq : MX = 9223372036854775807 := rfl
def RetB (v : Bool) (w : World) : Ending → World → Prop := fun e w' => e = .returned (.bool v) ∧ Below w.heap.size w w'
def RetI (v : Int) (w : World) : Ending → World → Prop := fun e w' => e = .returned (.int .i64 v) ∧ Below w.heap.size w w'
def RetS (v : ByteArray) (w : World) : Ending → World → Prop := fun e w' => e = .returned (.string v) ∧ Below w.heap.size w w'
def RetI2 (v u : Int) (w : World) : Ending → World → Prop := fun e w' => e = .returned (.tuple #[.int .i64 v, .int .i64 u]) ∧ Below w.heap.size w w'
theorem b_alloc (w : World) (ob : Obj) : Below w.heap.size w (w.alloc ob) := (Below.refl _ w).alloc (Nat.le_refl _) _
theorem b_call {w w1 : World} {ob : Obj} (hb : Below (w.alloc ob).heap.size (w.alloc ob) w1) : Below w.heap.size w w1 := (b_alloc w ob).trans (hb.mono (by simp))
theorem b_trans {w w1 w2 : World} (hb : Below w.heap.size w w1) (h2 : Below w1.heap.size w1 w2) : Below w.heap.size w w2 := hb.trans (h2.mono hb.size)
theorem isE {α : Type} [DecidableEq α] (l : List α) : l.isEmpty = decide (l = []) := by cases l <;> simp
/-- A cell of a block of one's own, behind a call. -/
theorem box_cell {w w1 : World} {cs : Array Value} {ty : TypeId} (hb : Below (w.alloc (.cells cs ty)).heap.size (w.alloc (.cells cs ty)) w1) (i : Nat) {v : Value} (h : cs[i]? = some v) : w1.cell? ⟨w.heap.size, i, none⟩ = some v :=
  (hb.cell (p := ⟨w.heap.size, i, none⟩) (by simp)).trans (by simp [h])
theorem new_cell {w : World} {g : Nat} (hg : w.heap.size = g) (cs : Array Value) (ty : TypeId) (i : Nat) {v : Value} (h : cs[i]? = some v) : (w.alloc (.cells cs ty)).cell? ⟨g, i, none⟩ = some v := by subst hg; simp [h]
theorem below_drawn {B : Nat} {a w : World} (h : Below B a w) (q : Nat) : Below B a (w.drewN q) := ⟨h.os, h.tape, h.output, h.size, h.block⟩
theorem beqL (a b : List UInt8) : (a == b) = decide (a = b) := by by_cases h : a = b <;> simp [h]
theorem dl (s : ByteArray) : s.toList = s.data.toList := by exact Go.ByteArray.toList_eq s
theorem sz0 (s : ByteArray) : s.toList.isEmpty = !decide (1 ≤ s.size) := by
  rw [dl]
  have h : s.data.toList.length = s.size := by simp
  cases hl : s.data.toList with
  | nil => rw [hl] at h; simp at h; simp [← h]
  | cons x r => rw [hl] at h; simp at h; simp [← h]
theorem beq0 (L : Nat) : ((L : Int) == 0) = decide (L = 0) := by by_cases h : L = 0 <;> simp [h]
theorem beq1 (L : Nat) : ((L : Int) == 1) = decide (L = 1) := by
  by_cases h : L = 1
  · subst h; rfl
  · have : ¬ ((L : Int) = 1) := by omega
    simp [h, this]
def bs (l : List UInt8) : ByteArray := ⟨l.toArray⟩
@[simp] theorem bs_data (l : List UInt8) : (bs l).data.toList = l := by simp [bs]
theorem bs_list (l : List UInt8) : (bs l).toList = l := by rw [dl]; simp
theorem bs_size (l : List UInt8) : (bs l).size = l.length := by simp [bs, ByteArray.size]
theorem bs_get (l : List UInt8) (i : Nat) (x : UInt8) (hx : l[i]? = some x) (h : i < (bs l).size) : (bs l)[i]'h = x := by
  have h2 : i < l.length := by rw [bs_size] at h; exact h
  have e : l[i] = x := by rw [List.getElem?_eq_getElem h2] at hx; exact Option.some.inj hx
  rw [← e]; rfl
theorem bs_cut (l : List UInt8) (a b : Nat) : (bs l).extract a b = bs ((l.take b).drop a) := by
  have : ((bs l).extract a b).data.toList = (bs ((l.take b).drop a)).data.toList := by simp [bs, ByteArray.data_extract, List.drop_take]
  cases h1 : (bs l).extract a b with | mk d1 => cases h2 : bs ((l.take b).drop a) with | mk d2 => rw [h1, h2] at this; simp at this; rw [this]
theorem bs_app (l : List UInt8) (n : ByteArray) : bs l ++ n = bs (l ++ n.data.toList) := by
  cases n with | mk d => simp [bs, ByteArray.ext_iff]
theorem bs_app2 (a b : List UInt8) : bs a ++ bs b = bs (a ++ b) := by rw [bs_app, bs_data]
theorem bs_of (s : ByteArray) : bs s.data.toList = s := by cases s; simp [bs]

/-- The call began in w0, with B blocks; the rows of L lie in blocks of its own. -/
structure Rws (B : Nat) (w0 w : World) (L : List (Nat × Array Value × TypeId)) : Prop where
  below : Below B w0 w
  len : B ≤ w.heap.size
  row : ∀ x, x ∈ L → B ≤ x.1 ∧ w.heap[x.1]? = some (.cells x.2.1 x.2.2 (0, 0))
  nd : L.Pairwise fun x y => x.1 ≠ y.1

/-- x is one of L; the others are L'. -/
inductive Pick {α : Type} : List α → α → List α → Prop
  | here {x : α} {l : List α} : Pick (x :: l) x l
  | there {x y : α} {l l' : List α} (h : Pick l x l') : Pick (y :: l) x (y :: l')

theorem Pick.mem {α : Type} {l l' : List α} {x : α} (h : Pick l x l') : x ∈ l := by
  induction h with
  | here => exact List.mem_cons_self
  | there _ ih => exact List.mem_cons_of_mem _ ih

theorem Pick.sub {α : Type} {l l' : List α} {x : α} (h : Pick l x l') : l'.Sublist l := by
  induction h with
  | here => exact List.sublist_cons_self _ _
  | there _ ih => exact ih.cons_cons _

section
variable {B : Nat} {w0 w w' : World} {L : List (Nat × Array Value × TypeId)}

theorem Pick.ne {L' : List (Nat × Array Value × TypeId)} {x : Nat × Array Value × TypeId} (h : Pick L x L') (hp : L.Pairwise fun x y => x.1 ≠ y.1) : ∀ y, y ∈ L' → y.1 ≠ x.1 := by
  induction h with
  | here => exact fun y hy e => (List.pairwise_cons.1 hp).1 y hy e.symm
  | there hpk ih =>
    intro y hy
    rcases List.mem_cons.1 hy with rfl | hy
    · exact (List.pairwise_cons.1 hp).1 _ hpk.mem
    · exact ih (List.pairwise_cons.1 hp).2 y hy

theorem Rws.start (w : World) : Rws w.heap.size w w [] := ⟨Below.refl _ _, Nat.le_refl _, fun _ h => absurd h List.not_mem_nil, List.Pairwise.nil⟩

theorem Rws.lt (h : Rws B w0 w L) {x : Nat × Array Value × TypeId} (hx : x ∈ L) : x.1 < w.heap.size := (Array.getElem?_eq_some_iff.1 (h.row x hx).2).1

/-- Behind a call. -/
theorem Rws.call (h : Rws B w0 w L) (hb : Below w.heap.size w w') : Rws B w0 w' L :=
  ⟨h.below.trans (hb.mono h.len), Nat.le_trans h.len hb.size, fun x hx => ⟨(h.row x hx).1, (hb.block _ (h.lt hx)).trans (h.row x hx).2⟩, h.nd⟩

theorem Rws.drew (h : Rws B w0 w L) : Rws B w0 w.drew L := ⟨h.below.drew, h.len, h.row, h.nd⟩

/-- One row more is known. -/
theorem Rws.add (h : Rws B w0 w L) {g : Nat} {cs : Array Value} {t : TypeId} (hB : B ≤ g) (hg : w.heap[g]? = some (.cells cs t (0, 0))) (hn : ∀ x, x ∈ L → x.1 ≠ g) : Rws B w0 w ((g, cs, t) :: L) :=
  ⟨h.below, h.len, fun x hx => by
    rcases List.mem_cons.1 hx with rfl | hx
    · exact ⟨hB, hg⟩
    · exact h.row x hx, List.pairwise_cons.2 ⟨fun x hx e => hn x hx e.symm, h.nd⟩⟩

theorem Rws.alloc0 (h : Rws B w0 w L) (o : Obj) : Rws B w0 (w.alloc o) L :=
  ⟨h.below.alloc h.len _, by simp; have := h.len; omega, fun x hx => ⟨(h.row x hx).1, (Below.heap_alloc w _ _ (h.lt hx)).trans (h.row x hx).2⟩, h.nd⟩

theorem Rws.alloc (h : Rws B w0 w L) (cs : Array Value) (t : TypeId) : Rws B w0 (w.alloc (.cells cs t)) ((w.heap.size, cs, t) :: L) :=
  (h.alloc0 _).add h.len (heap_alloc_new _ _) fun _ hx => Nat.ne_of_lt (h.lt hx)

theorem Rws.alloc' (h : Rws B w0 w L) {g : Nat} (hg : w.heap.size = g) (cs : Array Value) (t : TypeId) : Rws B w0 (w.alloc (.cells cs t)) ((g, cs, t) :: L) := by
  subst hg; exact h.alloc cs t

theorem Rws.sub (h : Rws B w0 w L) {L' : List (Nat × Array Value × TypeId)} (hs : L'.Sublist L) : Rws B w0 w L' := ⟨h.below, h.len, fun x hx => h.row x (hs.subset hx), h.nd.sublist hs⟩

theorem Rws.set (h : Rws B w0 w L) {g : Nat} {cs : Array Value} {t : TypeId} {L' : List (Nat × Array Value × TypeId)} (hm : Pick L (g, cs, t) L') (cs' : Array Value) :
    Rws B w0 (w.setRow g cs') ((g, cs', t) :: L') := by
  have hg := (h.row _ hm.mem).2
  have hB := (h.row _ hm.mem).1
  have hne := hm.ne h.nd
  simp only at hg hB hne
  refine Rws.add ⟨?_, by rw [size_setRow]; exact h.len, fun x hx => ?_, h.nd.sublist hm.sub⟩ hB ?_ hne
  · refine h.below.trans ⟨rfl, rfl, rfl, by rw [size_setRow]; exact Nat.le_refl _, fun k hk => ?_⟩
    simp only [World.setRow, Array.getElem?_modify]
    rw [if_neg (by omega)]
  · refine ⟨(h.row x (hm.sub.subset hx)).1, ?_⟩
    simp only [World.setRow, Array.getElem?_modify]
    rw [if_neg (fun e => hne x hx e.symm)]
    exact (h.row x (hm.sub.subset hx)).2
  · simp only [World.setRow, Array.getElem?_modify]
    rw [hg]
    rfl

variable {P : Program} {o : Oper} {a : Act} {Q : Exit → Act → World → Prop} {ops : Array Oper} {rest : List Oper}

/-- A struct or an array out of its variable. -/
theorem wpList_load_rws (hgd : o.guard = none) (ty : TypeId) (x : Operand) (ho : o.op = .load ty x) (h : Rws B w0 w L) (g : Nat) (hx : a.eval x = .pointer (some ⟨g, 0, none⟩))
    (cs : Array Value) (t : TypeId) (hm : (g, cs, t) ∈ L) (d : TypeDesc) (hu : P.underlying ty = some d) (hd : (match d with | .struct _ | .array _ _ => true | _ => false) = true) (hi : (P.info? ty).map (·.size) = some cs.size)
    (hK : wpList P ops Q rest (a.put o.dst (.agg cs)) w) : wpList P ops Q (o :: rest) a w :=
  wpList_load_row hgd ty x ho g hx t cs (0, 0) d (h.row _ hm).2 hu hd hi hK

/-- A struct or an array into its variable. -/
theorem wpList_store_rws (hgd : o.guard = none) (ty : TypeId) (x y : Operand) (ho : o.op = .store ty x y) (h : Rws B w0 w L) (g : Nat) (hx : a.eval x = .pointer (some ⟨g, 0, none⟩))
    (new : Array Value) (hy : a.eval y = .agg new) (cs : Array Value) (t : TypeId) (L' : List (Nat × Array Value × TypeId)) (hm : Pick L (g, cs, t) L')
    (hi : (P.info? ty).map (·.size) = some new.size) (hc : cs.size = new.size) (h1 : new.all (·.oneCell') = true) 
    (hK : ∀ w', Rws B w0 w' ((g, new, t) :: L') → wpList P ops Q rest (a.put o.dst undef) w') : wpList P ops Q (o :: rest) a w := by
  refine wpList_plain hgd fun K hKK => ?_
  unfold Oper.wp execOp
  simp only [ho, hx, hy, Instr.storeAt, Instr.sureAddr, Sem.run_bind, Sem.run_pure, Result.andThen_ok, run_storeVar_row w g t ty cs new (h.row _ hm.mem).2 hi hc h1]
  exact hKK _ _ (hK _ (h.set hm new))

/-- A variable of its own is made, with a value in it. -/
theorem wpList_box_rws (hgd : o.guard = none) (ty : TypeId) (x : Operand) (ho : o.op = .box ty x) (h : Rws B w0 w L) (cs : Array Value) (hx : a.eval x = .agg cs)
    (hK : ∀ g w', Rws B w0 w' ((g, cs, ty) :: L) → wpList P ops Q rest (a.put o.dst (.pointer (some ⟨g, 0, none⟩))) w') : wpList P ops Q (o :: rest) a w := by
  refine wpList_plain hgd fun K hKK => ?_
  unfold Oper.wp execOp
  simp only [ho, hx]
  exact hKK _ _ (hK _ _ (h.alloc cs ty))

/-- A variable of its own is made, with its type's zero in it. -/
theorem wpList_alloc_rws (hgd : o.guard = none) (ty : TypeId) (ho : o.op = .alloc ty) (h : Rws B w0 w L) (cs : Array Value) (hz : ∀ w : World, (zeroValue ty).run P w = .ok (.agg cs) w)
    (hK : ∀ g w', Rws B w0 w' ((g, cs, ty) :: L) → wpList P ops Q rest (a.put o.dst (.pointer (some ⟨g, 0, none⟩))) w') : wpList P ops Q (o :: rest) a w := by
  refine wpList_plain hgd fun K hKK => ?_
  unfold Oper.wp execOp
  simp only [ho, Instr.alloc, Sem.run_bind, hz, Result.andThen_ok]
  exact hKK _ _ (hK _ _ (h.alloc cs ty))

/-- A call's end whose result is a struct or an array in a variable. -/
theorem bodyPost_rws {fn : Func} {R : Ending → World → Prop} {p : Tmp} {ty : TypeId} (hf : fn.results = #[.cell p ty]) (h : Rws B w0 w L) (g : Nat) (hp : a.tmps.getD p undef = .pointer (some ⟨g, 0, none⟩))
    (cs : Array Value) (t : TypeId) (hm : (g, cs, t) ∈ L) (d : TypeDesc) (hu : P.underlying ty = some d) (hd : (match d with | .struct _ | .array _ _ => true | _ => false) = true) (hi : (P.info? ty).map (·.size) = some cs.size)
    (hdef : a.defers = []) (hR : Below B w0 w → R (.returned (.agg cs)) w) : bodyPost P fn R .ret a w :=
  bodyPost_ret (results_cell_row hf a.tmps w g t cs (0, 0) d hp (h.row _ hm).2 hu hd hi) hdef (hR h.below)

/-- A call's end with a struct or an array in a variable, and another result. -/
theorem bodyPost_rws2 {fn : Func} {R : Ending → World → Prop} {p u : Tmp} {ty : TypeId} (hf : fn.results = #[.cell p ty, .tmp u]) (h : Rws B w0 w L) (g : Nat) (hp : a.tmps.getD p undef = .pointer (some ⟨g, 0, none⟩))
    (cs : Array Value) (t : TypeId) (hm : (g, cs, t) ∈ L) (d : TypeDesc) (hu : P.underlying ty = some d) (hd : (match d with | .struct _ | .array _ _ => true | _ => false) = true) (hi : (P.info? ty).map (·.size) = some cs.size)
    (v : Value) (hv : a.tmps.getD u undef = v) (hdef : a.defers = []) (hR : Below B w0 w → R (.returned (.tuple #[.agg cs, v])) w) : bodyPost P fn R .ret a w := by
  refine bodyPost_ret (v := .tuple #[.agg cs, v]) ?_ hdef (hR h.below)
  rw [results_cell_tmp hf, hp, hv]
  simp [asAddr, Result.andThen, run_loadVar_row w g t ty cs (0, 0) d (h.row _ hm).2 hu hd hi]

/-- One cell of a row is written. -/
theorem Rws.setc {g : Nat} {cs : Array Value} {t : TypeId} (h : Rws B w0 w ((g, cs, t) :: L)) (j : Nat) (v : Value) : Rws B w0 (w.setCell ⟨g, j, none⟩ v) ((g, cs.setIfInBounds j v, t) :: L) := by
  have h0 := h.row _ (List.Mem.head _)
  have hn := List.pairwise_cons.1 h.nd
  simp only at h0 hn
  have h1 : Rws B w0 w L := h.sub (List.sublist_cons_self _ _)
  refine Rws.add ⟨h1.below.setCell h0.1 v, by rw [World.size_setCell]; exact h1.len, fun x hx => ⟨(h1.row x hx).1, (heap_setCell_other w ⟨g, j, none⟩ x.1 v (fun e => hn.1 x hx e.symm)).trans (h1.row x hx).2⟩, h1.nd⟩ h0.1 (heap_setCell_same w g j cs t v h0.2) (fun x hx e => hn.1 x hx e.symm)
end
section
variable {B : Nat} {w0 w w' : World} {L L' : List (Nat × Array Value × TypeId)}
theorem Rws.front {x : Nat × Array Value × TypeId} (h : Rws B w0 w L) (hm : Pick L x L') : Rws B w0 w (x :: L') :=
  ⟨h.below, h.len, fun y hy => by
    rcases List.mem_cons.1 hy with rfl | hy
    · exact h.row _ hm.mem
    · exact h.row y (hm.sub.subset hy), List.pairwise_cons.2 ⟨fun y hy e => hm.ne h.nd y hy e.symm, h.nd.sublist hm.sub⟩⟩
theorem Rws.setp {g : Nat} {cs new : Array Value} {t : TypeId} (h : Rws B w0 w L) (hm : Pick L (g, cs, t) L') (j : Nat) (v : Value) (hn : cs.setIfInBounds j v = new) : Rws B w0 (w.setCell ⟨g, j, none⟩ v) ((g, new, t) :: L') := by
  rw [← hn]; exact (h.front hm).setc j v
theorem Rws.cellAt {g : Nat} {cs : Array Value} {t : TypeId} {v : Value} (h : Rws B w0 w L) (hm : (g, cs, t) ∈ L) (j : Nat) (hc : cs[j]? = some v) : w.cell? ⟨g, j, none⟩ = some v :=
  (cell_of_row w g j cs t _ (h.row _ hm).2).trans hc
theorem Rws.thaw {g : Nat} {cs : Array Value} {t : TypeId} (h : Rws B w0 w L) (hm : (g, cs, t) ∈ L) (j : Nat) : w.frozen? ⟨g, j, none⟩ = false := by
  have := (h.row _ hm).2
  simp only at this
  simp [World.frozen?, this]

variable {P : Program} {o : Oper} {a : Act} {Q : Exit → Act → World → Prop} {ops : Array Oper} {rest : List Oper}
/-- A value into a part of a row. -/
theorem wR_store {ty t : TypeId} {x y : Operand} {g k : Nat} {v : Value} {vs : List Value} {cs new : Array Value} (hgd : o.guard = none) (ho : o.op = .store ty x y) (h : Rws B w0 w L) (hx : a.eval x = .pointer (some ⟨g, k, none⟩)) (hy : a.eval y = v) (hm : Pick L (g, cs, t) L')
    (hv : v.cells.toList = vs) (hi : (P.info? ty).map (·.size) = some vs.length) (hk : k + vs.length ≤ cs.size) (h1 : ∀ u ∈ vs, u.oneCell' = true) (hn : (cs.toList.take k ++ vs ++ cs.toList.drop (k + vs.length)).toArray = new)
    (hK : ∀ w', Rws B w0 w' ((g, new, t) :: L') → wpList P ops Q rest (a.put o.dst undef) w') : wpList P ops Q (o :: rest) a w := by
  refine wpList_plain hgd fun K hKK => ?_
  have hs := run_storeCells_at P g k t vs 0 cs w (h.row _ hm.mem).2 (by omega) h1
  have hsz : v.cells.size = vs.length := by rw [← hv]; simp
  have hr : (Instr.storeAt ty (.pointer (some ⟨g, k, none⟩)) v).run P w = .ok () (w.setRow g new) := by
    cases hq : P.info? ty with
    | none => simp [hq] at hi
    | some i =>
      have : i.size = vs.length := by simpa [hq] using hi
      simp only [Nat.add_zero] at hs
      simp [Instr.storeAt, Instr.sureAddr, storeVar, sizeOf, typeInfo, Sem.run_bind, hq, this, hsz, hv, hs, ← hn]
  unfold Oper.wp execOp
  simp only [ho, hx, hy]
  rw [Sem.run_bind, hr]
  exact hKK _ _ (hK _ (h.set hm new))
/-- One cell of a row. -/
theorem wR_storec {ty t : TypeId} {x y : Operand} {g k : Nat} {v : Value} {cs new : Array Value} (hgd : o.guard = none) (ho : o.op = .store ty x y) (h : Rws B w0 w L) (hx : a.eval x = .pointer (some ⟨g, k, none⟩)) (hy : a.eval y = v) (hm : Pick L (g, cs, t) L')
    (hv : v.cells = #[v]) (hi : (P.info? ty).map (·.size) = some 1) (hk : k < cs.size) (h1 : v.oneCell' = true) (hn : cs.setIfInBounds k v = new)
    (hK : ∀ w', Rws B w0 w' ((g, new, t) :: L') → wpList P ops Q rest (a.put o.dst undef) w') : wpList P ops Q (o :: rest) a w := by
  refine wR_store hgd ho h hx hy hm (vs := [v]) (by rw [hv]) hi (Nat.succ_le_of_lt hk) (by simpa using h1) ?_ hK
  rw [← hn]
  apply Array.ext'
  simp only [Array.toList_setIfInBounds]
  have e : cs.toList.set k v = cs.toList.take k ++ v :: cs.toList.drop (k + 1) := List.set_eq_take_append_cons_drop .. ▸ (by rw [if_pos (by simpa using hk)])
  rw [e]
  simp
/-- One cell out of a row. -/
theorem wR_loadc {t t2 : TypeId} {x : Operand} {g k : Nat} {cs : Array Value} {v : Value} (hgd : o.guard = none) (ho : o.op = .load t x) (h : Rws B w0 w L) (hx : a.eval x = .pointer (some ⟨g, k, none⟩)) (hm : (g, cs, t2) ∈ L) (hc : cs[k]? = some v) (hag : ∀ w : World, (isAgg t).run P w = .ok false w)
    (hK : wpList P ops Q rest (a.put o.dst v) w) : wpList P ops Q (o :: rest) a w :=
  wpList_plain hgd fun K hKK => by
    have hcell : w.cell? ⟨g, k, none⟩ = some v := h.cellAt hm k hc
    have h1 : (Instr.loadAt t (.pointer (some ⟨g, k, none⟩))).run P w = .ok v w := by
      simp [Instr.loadAt, Instr.sureAddr, loadVar, Sem.run_bind, hag, run_load, hcell]
    unfold Oper.wp execOp
    simp only [ho, hx]
    rw [Sem.run_bind, h1]
    exact hKK _ _ hK
end
section
variable {B : Nat} {w0 w w' : World} {L : List (Nat × Array Value × TypeId)}
variable {P : Program} {o : Oper} {a : Act} {Q : Exit → Act → World → Prop} {ops : Array Oper} {rest : List Oper}
/-- As wpList_alloc_rws; what was there is as it was. -/
theorem wQ_alloc (hgd : o.guard = none) (ty : TypeId) (ho : o.op = .alloc ty) (h : Rws B w0 w L) (cs : Array Value) (hz : ∀ w : World, (zeroValue ty).run P w = .ok (.agg cs) w)
    (hK : ∀ g w', Rws B w0 w' ((g, cs, ty) :: L) → Below w.heap.size w w' → w.heap.size ≤ g → wpList P ops Q rest (a.put o.dst (.pointer (some ⟨g, 0, none⟩))) w') : wpList P ops Q (o :: rest) a w := by
  refine wpList_plain hgd fun K hKK => ?_
  unfold Oper.wp execOp
  simp only [ho, Instr.alloc, Sem.run_bind, hz, Result.andThen_ok]
  exact hKK _ _ (hK _ _ (h.alloc cs ty) (b_alloc _ _) (Nat.le_refl _))
/-- As wpList_store_rws; all other blocks are as they were. -/
theorem wQ_store (hgd : o.guard = none) (ty : TypeId) (x y : Operand) (ho : o.op = .store ty x y) (h : Rws B w0 w L) (g : Nat) (hx : a.eval x = .pointer (some ⟨g, 0, none⟩))
    (new : Array Value) (hy : a.eval y = .agg new) (cs : Array Value) (t : TypeId) (L' : List (Nat × Array Value × TypeId)) (hm : Pick L (g, cs, t) L')
    (hi : (P.info? ty).map (·.size) = some new.size) (hc : cs.size = new.size) (h1 : new.all (·.oneCell') = true)
    (hK : ∀ w', Rws B w0 w' ((g, new, t) :: L') → (∀ k, k ≠ g → w'.heap[k]? = w.heap[k]?) → w'.heap.size = w.heap.size → wpList P ops Q rest (a.put o.dst undef) w') : wpList P ops Q (o :: rest) a w := by
  refine wpList_plain hgd fun K hKK => ?_
  unfold Oper.wp execOp
  simp only [ho, hx, hy, Instr.storeAt, Instr.sureAddr, Sem.run_bind, Sem.run_pure, Result.andThen_ok, run_storeVar_row w g t ty cs new (h.row _ hm.mem).2 hi hc h1]
  refine hKK _ _ (hK _ (h.set hm new) (fun k hk => ?_) (size_setRow _ _ _))
  simp only [World.setRow, Array.getElem?_modify]
  rw [if_neg (fun e => hk e.symm)]
end

theorem Rws.grown {B gl : Nat} {w0 w w' : World} {L : List (Nat × Array Value × TypeId)} (h : Rws B w0 w L) (hg : w.grownBy w' (some gl)) (hB : B ≤ gl) (hne : ∀ x, x ∈ L → x.1 ≠ gl) : Rws B w0 w' L := by
  have hb : ∀ k, k < w.heap.size → k ≠ gl → w'.heap[k]? = w.heap[k]? := fun k hk hn => hg.block k hk (fun e => hn (Option.some.inj e))
  refine ⟨⟨hg.os.trans h.below.os, hg.tape.trans h.below.tape, hg.output.trans h.below.output, Nat.le_trans h.below.size hg.size, fun k hk => ?_⟩, Nat.le_trans h.len hg.size, fun x hx => ⟨(h.row x hx).1, (hb _ (h.lt hx) (hne x hx)).trans (h.row x hx).2⟩, h.nd⟩
  exact (hb k (Nat.lt_of_lt_of_le hk h.len) (by omega)).trans (h.below.block k hk)
theorem results_cell_tmp2 {fn : Func} {p u u2 : Tmp} {ty : TypeId} (h : fn.results = #[.cell p ty, .tmp u, .tmp u2]) (tmps : Array Value) (P : Program) (w : World) :
    (results fn tmps).run P w =
      ((asAddr (tmps.getD p undef)).run P w).andThen fun a w₁ => ((loadVar ty a).run P w₁).andThen fun v w₂ => .ok (.tuple #[v, tmps.getD u undef, tmps.getD u2 undef]) w₂ := by
  simp only [results, h]
  simp [Sem.run_bind, Result.andThen]
section
variable {P : Program} {o : Oper} {a : Act} {B : Nat} {w0 w : World} {L L' : List (Nat × Array Value × TypeId)}
/-- A call's end with a struct or an array in a variable, and two other results. -/
theorem bodyPost_rws3 {fn : Func} {R : Ending → World → Prop} {p u u2 : Tmp} {ty : TypeId} (hf : fn.results = #[.cell p ty, .tmp u, .tmp u2]) (h : Rws B w0 w L) (g : Nat) (hp : a.tmps.getD p undef = .pointer (some ⟨g, 0, none⟩))
    (cs : Array Value) (t : TypeId) (hm : (g, cs, t) ∈ L) (d : TypeDesc) (hu : P.underlying ty = some d) (hd : (match d with | .struct _ | .array _ _ => true | _ => false) = true) (hi : (P.info? ty).map (·.size) = some cs.size)
    (v v2 : Value) (hv : a.tmps.getD u undef = v) (hv2 : a.tmps.getD u2 undef = v2) (hdef : a.defers = []) (hR : Below B w0 w → R (.returned (.tuple #[.agg cs, v, v2])) w) : bodyPost P fn R .ret a w := by
  refine bodyPost_ret (v := .tuple #[.agg cs, v, v2]) ?_ hdef (hR h.below)
  rw [results_cell_tmp2 hf, hp, hv, hv2]
  simp [asAddr, Result.andThen, run_loadVar_row w g t ty cs (0, 0) d (h.row _ hm).2 hu hd hi]
/-- A whole variable is written, in a region that draws its order. -/
theorem step_store {ops : Array Oper} {K : Act → World → Prop} {Q : Exit → Act → World → Prop} {E : Prop} (hgd : o.guard = none) (ty : TypeId) (x y : Operand) (ho : o.op = .store ty x y) (h : Rws B w0 w L) (g : Nat) (hx : a.eval x = .pointer (some ⟨g, 0, none⟩))
    (new : Array Value) (hy : a.eval y = .agg new) (cs : Array Value) (t : TypeId) (hm : Pick L (g, cs, t) L')
    (hi : (P.info? ty).map (·.size) = some new.size) (hc : cs.size = new.size) (h1 : new.all (·.oneCell') = true)
    (hK : ∀ w', Rws B w0 w' ((g, new, t) :: L') → (∀ k, k ≠ g → w'.heap[k]? = w.heap[k]?) → w'.heap.size = w.heap.size → K (a.put o.dst undef) w') :
    if Region.wanted o (yielded ops a.tmps) = true then Oper.wp P o a w K Q else E := by
  have hw : Region.wanted o (yielded ops a.tmps) = true := by simp [Region.wanted, hgd]
  rw [if_pos hw]
  unfold Oper.wp execOp
  simp only [ho, hx, hy, Instr.storeAt, Instr.sureAddr, Sem.run_bind, Sem.run_pure, Result.andThen_ok, run_storeVar_row w g t ty cs new (h.row _ hm.mem).2 hi hc h1]
  refine hK _ (h.set hm new) (fun k hk => ?_) (size_setRow _ _ _)
  simp only [World.setRow, Array.getElem?_modify]
  rw [if_neg (fun e => hk e.symm)]
end
theorem add_z (b j : Nat) : (⟨b, 0, none⟩ : Addr).add j = ⟨b, j, none⟩ := by unfold Addr.add; split <;> simp_all
theorem Rws.swap {B : Nat} {w0 w : World} {x y : Nat × Array Value × TypeId} {L : List (Nat × Array Value × TypeId)} (h : Rws B w0 w (x :: y :: L)) : Rws B w0 w (y :: x :: L) := by
  refine ⟨h.below, h.len, fun z hz => h.row z ?_, ?_⟩
  · simp only [List.mem_cons] at hz ⊢
    rcases hz with h | h | h
    · exact Or.inr (Or.inl h)
    · exact Or.inl h
    · exact Or.inr (Or.inr h)
  · have hn := h.nd
    simp only [List.pairwise_cons, List.mem_cons, forall_eq_or_imp] at hn ⊢
    exact ⟨⟨fun e => hn.1.1 e.symm, hn.2.1⟩, hn.1.2, hn.2.2⟩
end Go.Proofs.YtebhiplcoioenaaGreatDoor
