/- Rows of one's own: stores and loads of parts; a reader that moves. -/
import Derived.Test.YthpagppipifgeaaGreatDoorZLRws
import Derived.Test.YthpagppipifgeaaGreatDoorZLWord
import Derived.BigQuiet
namespace Go.Proofs.YthpagppipifgeaaGreatDoor
open Go.RowKit

section
variable {B : Nat} {w0 w w' : World} {L L' : List (Nat × Array Value × TypeId)}
theorem Rws.front {x : Nat × Array Value × TypeId} (h : Rws B w0 w L) (hm : Pick L x L') : Rws B w0 w (x :: L') :=
  ⟨h.below, h.len, fun y hy => by
    rcases List.mem_cons.1 hy with rfl | hy
    · exact h.row _ hm.mem
    · exact h.row y (hm.sub.subset hy), List.pairwise_cons.2 ⟨fun y hy e => hm.ne h.nd y hy e.symm, h.nd.sublist hm.sub⟩⟩
theorem Rws.setp {g : Nat} {cs new : Array Value} {t : TypeId} (h : Rws B w0 w L) (hm : Pick L (g, cs, t) L') (j : Nat) (v : Value) (hn : cs.setIfInBounds j v = new) : Rws B w0 (w.setCell ⟨g, j, none⟩ v) ((g, new, t) :: L') := by
  rw [← hn]; exact (h.front hm).setc j v
theorem Rws.cellAt {g : Nat} {cs : Array Value} {t : TypeId} {v : Value} (h : Rws B w0 w L) (hm : (g, cs, t) ∈ L) (j : Nat) (hc : cs[j]? = some v) : w.cell? ⟨g, j, none⟩ = some v :=
  (cell_of_row w g j cs t _ (h.row _ hm).2).trans hc
theorem Rws.thaw {g : Nat} {cs : Array Value} {t : TypeId} (h : Rws B w0 w L) (hm : (g, cs, t) ∈ L) (j : Nat) : w.frozen? ⟨g, j, none⟩ = false := by
  have := (h.row _ hm).2
  simp only at this
  simp [World.frozen?, this]

variable {P : Program} {o : Oper} {a : Act} {Q : Exit → Act → World → Prop} {ops : Array Oper} {rest : List Oper}
/-- A value into a part of a row. -/
theorem wR_store {ty t : TypeId} {x y : Operand} {g k : Nat} {v : Value} {vs : List Value} {cs new : Array Value} (hgd : o.guard = none) (ho : o.op = .store ty x y) (h : Rws B w0 w L) (hx : a.eval x = .pointer (some ⟨g, k, none⟩)) (hy : a.eval y = v) (hm : Pick L (g, cs, t) L')
    (hv : v.cells.toList = vs) (hi : (P.info? ty).map (·.size) = some vs.length) (hk : k + vs.length ≤ cs.size) (h1 : ∀ u ∈ vs, u.oneCell' = true) (hn : (cs.toList.take k ++ vs ++ cs.toList.drop (k + vs.length)).toArray = new)
    (hK : ∀ w', Rws B w0 w' ((g, new, t) :: L') → wpList P ops Q rest (a.put o.dst undef) w') : wpList P ops Q (o :: rest) a w := by
  refine wpList_plain hgd fun K hKK => ?_
  have hs := run_storeCells_at P g k t vs 0 cs w (h.row _ hm.mem).2 (by omega) h1
  have hsz : v.cells.size = vs.length := by rw [← hv]; simp
  have hr : (Instr.storeAt ty (.pointer (some ⟨g, k, none⟩)) v).run P w = .ok () (w.setRow g new) := by
    cases hq : P.info? ty with
    | none => simp [hq] at hi
    | some i =>
      have : i.size = vs.length := by simpa [hq] using hi
      simp only [Nat.add_zero] at hs
      simp [Instr.storeAt, Instr.sureAddr, storeVar, sizeOf, typeInfo, Sem.run_bind, hq, this, hsz, hv, hs, ← hn]
  unfold Oper.wp execOp
  simp only [ho, hx, hy]
  rw [Sem.run_bind, hr]
  exact hKK _ _ (hK _ (h.set hm new))
/-- One cell of a row. -/
theorem wR_storec {ty t : TypeId} {x y : Operand} {g k : Nat} {v : Value} {cs new : Array Value} (hgd : o.guard = none) (ho : o.op = .store ty x y) (h : Rws B w0 w L) (hx : a.eval x = .pointer (some ⟨g, k, none⟩)) (hy : a.eval y = v) (hm : Pick L (g, cs, t) L')
    (hv : v.cells = #[v]) (hi : (P.info? ty).map (·.size) = some 1) (hk : k < cs.size) (h1 : v.oneCell' = true) (hn : cs.setIfInBounds k v = new)
    (hK : ∀ w', Rws B w0 w' ((g, new, t) :: L') → wpList P ops Q rest (a.put o.dst undef) w') : wpList P ops Q (o :: rest) a w := by
  refine wR_store hgd ho h hx hy hm (vs := [v]) (by rw [hv]) hi (Nat.succ_le_of_lt hk) (by simpa using h1) ?_ hK
  rw [← hn]
  apply Array.ext'
  simp only [Array.toList_setIfInBounds]
  have e : cs.toList.set k v = cs.toList.take k ++ v :: cs.toList.drop (k + 1) := List.set_eq_take_append_cons_drop .. ▸ (by rw [if_pos (by simpa using hk)])
  rw [e]
  simp
/-- One cell out of a row. -/
theorem wR_loadc {t t2 : TypeId} {x : Operand} {g k : Nat} {cs : Array Value} {v : Value} (hgd : o.guard = none) (ho : o.op = .load t x) (h : Rws B w0 w L) (hx : a.eval x = .pointer (some ⟨g, k, none⟩)) (hm : (g, cs, t2) ∈ L) (hc : cs[k]? = some v) (hag : ∀ w : World, (isAgg t).run P w = .ok false w)
    (hK : wpList P ops Q rest (a.put o.dst v) w) : wpList P ops Q (o :: rest) a w :=
  wpList_plain hgd fun K hKK => by
    have hcell : w.cell? ⟨g, k, none⟩ = some v := h.cellAt hm k hc
    have h1 : (Instr.loadAt t (.pointer (some ⟨g, k, none⟩))).run P w = .ok v w := by
      simp [Instr.loadAt, Instr.sureAddr, loadVar, Sem.run_bind, hag, run_load, hcell]
    unfold Oper.wp execOp
    simp only [ho, hx]
    rw [Sem.run_bind, h1]
    exact hKK _ _ hK
end
/-- Behind a call that has moved a reader of the caller's: the rows are as they were, over a base in which the reader has moved. -/
theorem Rws.move {B rb : Nat} {w0 w1 w2 : World} {s0 s : List UInt8} {L : List (Nat × Array Value × TypeId)} (h : Rws B w0 w1 L) (ha : At rb s0 w0) (hr : rb < B) (hB : w0.heap.size = B) (hm : Mv rb s w1 w2) :
    ∃ wn, Rws B wn w2 L ∧ Mv rb s w0 wn ∧ wn.heap.size = B := by
  have hs := Mv.store ha s
  refine ⟨w0.setCell ⟨rb, 0, none⟩ (.string (bs s)), ⟨⟨?_, ?_, ?_, ?_, ?_⟩, ?_, ?_, h.nd⟩, hs, by rw [World.size_setCell]; exact hB⟩
  · rw [hs.os]; exact hm.os.trans h.below.os
  · rw [hs.tape]; exact hm.tape.trans h.below.tape
  · rw [hs.output]; exact hm.output.trans h.below.output
  · rw [World.size_setCell, hB]; exact Nat.le_trans h.len hm.size
  · intro k hk
    by_cases e : k = rb
    · subst e; exact hm.at_.trans hs.at_.symm
    · rw [hm.block k (Nat.lt_of_lt_of_le hk h.len) e, h.below.block k hk, hs.block k (by omega) e]
  · exact Nat.le_trans h.len hm.size
  · intro x hx
    obtain ⟨h1, h2⟩ := h.row x hx
    exact ⟨h1, (hm.block _ (h.lt hx) (by omega)).trans h2⟩
theorem Rws.at_ {B rb : Nat} {w0 w1 : World} {s0 : List UInt8} {L : List (Nat × Array Value × TypeId)} (h : Rws B w0 w1 L) (ha : At rb s0 w0) (hr : rb < B) : At rb s0 w1 := (h.below.block rb hr).trans ha

/-- A text cut at its first point. -/
def dotS (l : List UInt8) : List UInt8 × List UInt8 × Bool :=
  if 0 ≤ Lib.indexByte l 46 then (l.take (Lib.indexByte l 46).toNat, l.drop ((Lib.indexByte l 46).toNat + 1), true) else (l, [], false)
theorem indexByte_lt (l : List UInt8) (c : UInt8) : Lib.indexByte l c < l.length := by
  induction l with
  | nil => simp [Lib.indexByte]
  | cons x l ih =>
    simp only [Lib.indexByte]
    split
    · simp only [List.length_cons]; omega
    · split
      · simp only [List.length_cons]; omega
      · simp only [List.length_cons]; omega
set_option maxRecDepth 100000 in
theorem cut0_any (l : List UInt8) (w : World) (hl : l.length ≤ 1024) :
    Calls Tryz.prog 136 #[.string (bs l), .string ⟨#[46]⟩] w fun e w' => e = .returned (.tuple #[.string (bs (dotS l).1), .string (bs (dotS l).2.1), .bool (dotS l).2.2]) ∧ Below w.heap.size w w' := by
  have HI : Hid (∀ w, Calls Tryz.prog 145 #[.string (bs l), .string ⟨#[46]⟩] w fun e w' => e = .returned (.int .i64 (Lib.indexByte l 46)) ∧ w' = w) := Lib.hid fun w => by
    have := Tryz.stringslite_Index_one (bs l) 46 w
    rw [bs_data] at this
    exact this
  have hge := Lib.indexByte_ge l 46
  have hlt := indexByte_lt l 46
  have hsz := bs_size l
  unfold dotS
  generalize Lib.indexByte l 46 = i at *
  by_cases h0 : 0 ≤ i
  · rw [if_pos h0]
    obtain ⟨k, rfl⟩ : ∃ k : Nat, i = k := ⟨i.toNat, by omega⟩
    have hw : IntKind.i64.wrap ((k : Int) + 1) = ((k + 1 : Nat) : Int) := by rw [IntKind.wrap_i64]; omega
    have hk2 : ((k + 1 : Nat) : Int) ≤ ((bs l).size : Int) := by rw [hsz]; omega
    have hk3 : (k : Int) ≤ ((bs l).size : Int) := by rw [hsz]; omega
    have hk4 : (0 : Int) ≤ ((k + 1 : Nat) : Int) := by omega
    have hc1 := bs_cut l 0 k
    have hc2 := drop_cut l (k + 1)
    rw [hsz] at hc2
    have HC1 := Lib.hid hc1; have HC2 := Lib.hid hc2
    clear hge hlt hc1 hc2
    go_enter Tryz.func136, Tryz.ntmps136
    go_wp2_with (go_at_call 145; refine (HI.out _).mono ?_; rintro e w1 ⟨rfl, rfl⟩)
    go_quiet (fail)
    go_wp2_with fail
    go_ret3
    refine ⟨?_, below_drawn (Below.refl _ _) _⟩
    rw [HC1.out, HC2.out]
    simp
  · rw [if_neg h0]
    clear hge hlt
    go_enter Tryz.func136, Tryz.ntmps136
    go_wp2_with (go_at_call 145; refine (HI.out _).mono ?_; rintro e w1 ⟨rfl, rfl⟩)
    go_ret3
    exact ⟨rfl, Below.refl _ _⟩
theorem cut_any (l : List UInt8) (w : World) (hl : l.length ≤ 1024) :
    Calls Tryz.prog 122 #[.string (bs l), .string ⟨#[46]⟩] w fun e w' => e = .returned (.tuple #[.string (bs (dotS l).1), .string (bs (dotS l).2.1), .bool (dotS l).2.2]) ∧ Below w.heap.size w w' := by
  have HC : Hid (∀ w, Calls Tryz.prog 136 #[.string (bs l), .string ⟨#[46]⟩] w fun e w' => e = .returned (.tuple #[.string (bs (dotS l).1), .string (bs (dotS l).2.1), .bool (dotS l).2.2]) ∧ Below w.heap.size w w') := Lib.hid fun w => cut0_any l w hl
  generalize dotS l = d at *
  obtain ⟨a, b, c⟩ := d
  go_enter Tryz.func122, Tryz.ntmps122
  go_wp2_with (go_at_call 136; refine (HC.out _).mono ?_; rintro e w1 ⟨rfl, hb⟩)
  go_ret3
  exact ⟨rfl, hb⟩
end Go.Proofs.YthpagppipifgeaaGreatDoor
