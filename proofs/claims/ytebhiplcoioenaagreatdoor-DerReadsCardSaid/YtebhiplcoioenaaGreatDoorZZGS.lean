/- Further steps of soft regions: parts of variables, places in slices, lengths, calls. -/
import Derived.Test.YtebhiplcoioenaaGreatDoorZDF
import Derived.Test.YtebhiplcoioenaaGreatDoorZZDefs
import Derived.IntWalk
namespace Go.Proofs.YtebhiplcoioenaaGreatDoor
open Go.RowKit

theorem isAgg_str : ∀ w : World, (isAgg 9).run Tryz.prog w = .ok false w := Tryz.isAgg9
theorem isAgg_int : ∀ w : World, (isAgg 3).run Tryz.prog w = .ok false w := Tryz.isAgg3
theorem isAgg_ders : ∀ w : World, (isAgg 22).run Tryz.prog w = .ok false w := Tryz.isAgg22
theorem isAgg_bool : ∀ w : World, (isAgg 4).run Tryz.prog w = .ok false w := Tryz.isAgg4
theorem isAgg_u8 : ∀ w : World, (isAgg 5).run Tryz.prog w = .ok false w := Tryz.isAgg5
theorem der_inf : (Tryz.prog.info? 24).map (·.size) = some 5 := by kernel_rfl
/-- What a call answers is such; nothing that was there has changed. -/
def RW (R : Prd) (w : World) : Ending → World → Prop := fun en w' => ∃ v, en = .returned v ∧ R w' v ∧ Below w.heap.size w w'
theorem rw_same {v : Value} {w : World} {e : Ending} {w' : World} (h : e = .returned v ∧ w' = w) : RW (Is v) w e w' := by
  obtain ⟨rfl, rfl⟩ := h
  exact ⟨_, rfl, rfl, Below.refl _ _⟩
theorem rw_below {v : Value} {w : World} {e : Ending} {w' : World} (h : e = .returned v ∧ Below w.heap.size w w') : RW (Is v) w e w' := ⟨_, h.1, rfl, h.2⟩
theorem bin_eqs (a b : ByteArray) {r : Bool} (h : (a.toList == b.toList) = r) (W : World) : (binOp .eql 9 (.string a) (.string b)).run Tryz.prog W = .ok (.bool r) W := by
  rw [← h]; kernel_rfl
theorem bin_nes (a b : ByteArray) {r : Bool} (h : (a.toList == b.toList) = r) (W : World) : (binOp .neq 9 (.string a) (.string b)).run Tryz.prog W = .ok (.bool (!r)) W := by
  rw [← h]; kernel_rfl
theorem bin_neu (a b : Int) {r : Bool} (h : (a == b) = r) (W : World) : (binOp .neq 5 (.int .u8 a) (.int .u8 b)).run Tryz.prog W = .ok (.bool (!r)) W := by
  rw [← h]; kernel_rfl
theorem bin_equ (a b : Int) {r : Bool} (h : (a == b) = r) (W : World) : (binOp .eql 5 (.int .u8 a) (.int .u8 b)).run Tryz.prog W = .ok (.bool r) W := by
  rw [← h]; kernel_rfl
theorem bin_eqi (a b : Int) {r : Bool} (h : (a == b) = r) (W : World) : (binOp .eql 3 (.int .i64 a) (.int .i64 b)).run Tryz.prog W = .ok (.bool r) W := by
  rw [← h]; kernel_rfl
theorem bin_eqe (a b : Int) {r : Bool} (h : (a == b) = r) (W : World) : (binOp .eql 25 (.int .i64 a) (.int .i64 b)).run Tryz.prog W = .ok (.bool r) W := by
  rw [← h]; kernel_rfl
theorem bin_adds (a b : ByteArray) (h : a.size + b.size ≤ 9223372036854775807) (W : World) : (binOp .add 9 (.string a) (.string b)).run Tryz.prog W = .ok (.string (a ++ b)) W := by
  have h2 : (binOp .add 9 (.string a) (.string b)) = Op.stringOp .add a b := by simp [binOp]
  rw [h2]
  exact run_string_add_sum W a b h
theorem run_cutS_h {P : Program} {t : TypeId} {s : ByteArray} {h : Nat} (ht : P.underlying t = some .string) (hh : h ≤ s.size) (w : World) : (Instr.sliceAt t (.string s) none (some (.int .i64 (h : Int))) none).run P w = .ok (.string (s.extract 0 h)) w := by
  rw [run_sliceAt_string (h := ht)]
  simp [Instr.slice, run_underlying ht, Instr.sliceBounds, run_sliceBound, Sem.run_bind, Result.andThen, hh]
theorem run_cutS_l {P : Program} {t : TypeId} {s : ByteArray} {l : Nat} (ht : P.underlying t = some .string) (hl : l ≤ s.size) (w : World) : (Instr.sliceAt t (.string s) (some (.int .i64 (l : Int))) none none).run P w = .ok (.string (s.extract l s.size)) w := by
  rw [run_sliceAt_string (h := ht)]
  simp [Instr.slice, run_underlying ht, Instr.sliceBounds, run_sliceBound, Sem.run_bind, Result.andThen, hl]
section
variable {B : Nat} {w0 ws : World} {L : List (Nat × Array Value × TypeId)} {full : List Oper} {a0 : Act} {K : Act → World → Prop} {n : Nat} {l : List Oper} {o : Oper} {Γ : Env}
theorem g_fa {st : TypeId} {x : Operand} {i g k off : Nat} {fs : Array Field} {f : Field} (ho' : o.op = .fieldAddr st x i) (hx : Has ws a0 Γ x (Is (.pointer (some ⟨g, k, none⟩)))) (hu : Tryz.prog.underlying st = some (.struct fs)) (hf : fs[i]? = some f)
    (hs : ∃ s, (Tryz.prog.info? f.type).map (·.size) = some (s + 1)) (ho : k + f.offset = off)
    (h : softG Tryz.prog B w0 ws L full a0 K n l ((o.dst, Is (.pointer (some ⟨g, off, none⟩))) :: Γ)) (hlv : Live full ws a0 Γ o := by first | exact ⟨rfl, Or.inl rfl⟩ | exact live_of rfl rfl rfl (fun _ _ _ h => h)) : softG Tryz.prog B w0 ws L full a0 K (n + 1) (o :: l) Γ :=
  g_val (x := x) (A := Is (.pointer (some ⟨g, k, none⟩))) (stb_is _) (by rw [ho']; exact Array.mem_singleton_self x) hx (fun w e _ _ he => by
    obtain ⟨s, hs⟩ := hs
    have h0 : (sizeOf f.type).run Tryz.prog w = .ok (s + 1) w := by
      cases hq : Tryz.prog.info? f.type with
      | none => simp [hq] at hs
      | some i =>
        have : i.size = s + 1 := by simpa [hq] using hs
        simp [sizeOf, typeInfo, hq, this, Sem.run_bind]
    have h1 : (Instr.fieldAt st (.pointer (some ⟨g, k, none⟩)) i).run Tryz.prog w = .ok (.pointer (some ⟨g, off, none⟩)) w := by
      unfold Instr.fieldAt
      rw [Sem.run_bind, run_underlying hu w]
      simp [Result.andThen, hf, Instr.sureAddr, fieldPlace, Sem.run_bind, h0, addr_add, ho]
    refine ⟨.pointer (some ⟨g, off, none⟩), ?_, rfl⟩
    have he : e x = .pointer (some ⟨g, k, none⟩) := he
    unfold execOp
    simp only [ho', he]
    rw [Sem.run_bind, h1]
    rfl) h hlv
/-- One cell, of what doesn't change. -/
theorem g_cellw {t : TypeId} {x : Operand} {g k : Nat} {v : Value} {R : Prd} (ho : o.op = .load t x) (hx : Has ws a0 Γ x (Is (.pointer (some ⟨g, k, none⟩)))) (hc : ∀ w, Below ws.heap.size ws w → w.cell? ⟨g, k, none⟩ = some v) (hag : ∀ w : World, (isAgg t).run Tryz.prog w = .ok false w)
    (hst : Stb R) (hr : ∀ w, Below ws.heap.size ws w → R w v) (h : softG Tryz.prog B w0 ws L full a0 K n l ((o.dst, R) :: Γ)) (hlv : Live full ws a0 Γ o := by first | exact ⟨rfl, Or.inl rfl⟩ | exact live_of rfl rfl rfl (fun _ _ _ h => h)) : softG Tryz.prog B w0 ws L full a0 K (n + 1) (o :: l) Γ :=
  g_val (x := x) (A := Is (.pointer (some ⟨g, k, none⟩))) hst (by rw [ho]; exact Array.mem_singleton_self x) hx (fun w e _ hb he => by
    have hcell := hc w hb
    have h1 : (Instr.loadAt t (.pointer (some ⟨g, k, none⟩))).run Tryz.prog w = .ok v w := by
      simp [Instr.loadAt, Instr.sureAddr, loadVar, Sem.run_bind, hag, run_load, hcell]
    have he : e x = .pointer (some ⟨g, k, none⟩) := he
    refine ⟨v, ?_, hr w hb⟩
    unfold execOp
    simp only [ho, he]
    rw [Sem.run_bind, h1]
    rfl) h hlv
theorem g_ixd {x y : Operand} {b f len c i : Nat} (ho : o.op = .indexAddr 22 x y) (hx : Has ws a0 Γ x (Is (.slice (some ⟨b, f, none⟩) len c))) (hy : Has ws a0 Γ y (Is (.int .i64 (i : Int)))) (hi : i < len)
    (h : softG Tryz.prog B w0 ws L full a0 K n l ((o.dst, Is (.pointer (some ⟨b, f + i * 5, none⟩))) :: Γ)) (hlv : Live full ws a0 Γ o := by first | exact ⟨rfl, Or.inl rfl⟩ | exact live_of rfl rfl rfl (fun _ _ _ h => h)) : softG Tryz.prog B w0 ws L full a0 K (n + 1) (o :: l) Γ :=
  g_two (x := x) (y := y) (by rw [ho]; exact Array.mem_def.2 (List.Mem.head _)) (by rw [ho]; exact Array.mem_def.2 (List.Mem.tail _ (List.Mem.head _))) hx hy (fun w e h1 h2 => by
    have hr : (Instr.indexAt 22 (.slice (some ⟨b, f, none⟩) len c) (.int .i64 (i : Int))).run Tryz.prog w = .ok (.pointer (some ⟨b, f + i * 5, none⟩)) w := by
      rw [run_indexAt_slice (h := by kernel_rfl), if_pos ⟨by omega, by omega⟩]
      have hs : (sizeOf (Tryz.prog.elem 22)).run Tryz.prog w = .ok 5 w := by kernel_rfl
      rw [hs]
      show Result.ok (Value.pointer (some ((⟨b, f, none⟩ : Addr).add ((i : Int).toNat * 5)))) w = _
      rw [Int.toNat_natCast, Addr.add_lit]
    unfold execOp
    simp only [ho, h1, h2]
    rw [Sem.run_bind, hr]
    rfl) h hlv
theorem g_ixi {x y : Operand} {b f len c i : Nat} (ho : o.op = .indexAddr 61 x y) (hx : Has ws a0 Γ x (Is (.slice (some ⟨b, f, none⟩) len c))) (hy : Has ws a0 Γ y (Is (.int .i64 (i : Int)))) (hi : i < len)
    (h : softG Tryz.prog B w0 ws L full a0 K n l ((o.dst, Is (.pointer (some ⟨b, f + i * 1, none⟩))) :: Γ)) (hlv : Live full ws a0 Γ o := by first | exact ⟨rfl, Or.inl rfl⟩ | exact live_of rfl rfl rfl (fun _ _ _ h => h)) : softG Tryz.prog B w0 ws L full a0 K (n + 1) (o :: l) Γ :=
  g_two (x := x) (y := y) (by rw [ho]; exact Array.mem_def.2 (List.Mem.head _)) (by rw [ho]; exact Array.mem_def.2 (List.Mem.tail _ (List.Mem.head _))) hx hy (fun w e h1 h2 => by
    have hr : (Instr.indexAt 61 (.slice (some ⟨b, f, none⟩) len c) (.int .i64 (i : Int))).run Tryz.prog w = .ok (.pointer (some ⟨b, f + i * 1, none⟩)) w := by
      rw [run_indexAt_slice (h := by kernel_rfl), if_pos ⟨by omega, by omega⟩]
      have hs : (sizeOf (Tryz.prog.elem 61)).run Tryz.prog w = .ok 1 w := by kernel_rfl
      rw [hs]
      show Result.ok (Value.pointer (some ((⟨b, f, none⟩ : Addr).add ((i : Int).toNat * 1)))) w = _
      rw [Int.toNat_natCast, Addr.add_lit]
    unfold execOp
    simp only [ho, h1, h2]
    rw [Sem.run_bind, hr]
    rfl) h hlv
theorem g_ixs {x y : Operand} {b f len c i : Nat} (ho : o.op = .indexAddr 65 x y) (hx : Has ws a0 Γ x (Is (.slice (some ⟨b, f, none⟩) len c))) (hy : Has ws a0 Γ y (Is (.int .i64 (i : Int)))) (hi : i < len)
    (h : softG Tryz.prog B w0 ws L full a0 K n l ((o.dst, Is (.pointer (some ⟨b, f + i * 1, none⟩))) :: Γ)) (hlv : Live full ws a0 Γ o := by first | exact ⟨rfl, Or.inl rfl⟩ | exact live_of rfl rfl rfl (fun _ _ _ h => h)) : softG Tryz.prog B w0 ws L full a0 K (n + 1) (o :: l) Γ :=
  g_two (x := x) (y := y) (by rw [ho]; exact Array.mem_def.2 (List.Mem.head _)) (by rw [ho]; exact Array.mem_def.2 (List.Mem.tail _ (List.Mem.head _))) hx hy (fun w e h1 h2 => by
    have hr : (Instr.indexAt 65 (.slice (some ⟨b, f, none⟩) len c) (.int .i64 (i : Int))).run Tryz.prog w = .ok (.pointer (some ⟨b, f + i * 1, none⟩)) w := by
      rw [run_indexAt_slice (h := by kernel_rfl), if_pos ⟨by omega, by omega⟩]
      have hs : (sizeOf (Tryz.prog.elem 65)).run Tryz.prog w = .ok 1 w := by kernel_rfl
      rw [hs]
      show Result.ok (Value.pointer (some ((⟨b, f, none⟩ : Addr).add ((i : Int).toNat * 1)))) w = _
      rw [Int.toNat_natCast, Addr.add_lit]
    unfold execOp
    simp only [ho, h1, h2]
    rw [Sem.run_bind, hr]
    rfl) h hlv
/-- An operation on one known value, or on none, that only reads: its answer is known. -/
theorem g_op1 {x : Operand} {v r : Value} (hm : x ∈ o.op.operands) (hx : Has ws a0 Γ x (Is v)) (hr : ∀ (w : World) (e : Operand → Value), e x = v → (execOp e o).run Tryz.prog w = .ok (.value r) w)
    (h : softG Tryz.prog B w0 ws L full a0 K n l ((o.dst, Is r) :: Γ)) (hlv : Live full ws a0 Γ o := by first | exact ⟨rfl, Or.inl rfl⟩ | exact live_of rfl rfl rfl (fun _ _ _ h => h)) : softG Tryz.prog B w0 ws L full a0 K (n + 1) (o :: l) Γ :=
  g_any (stb_is _) (fun w e _ hb hat => by
    have h1 : e x = v := hx w (e x) hb (hat x hm)
    rw [hr w e h1]
    exact ⟨rfl, Below.refl _ _⟩) h hlv
theorem g_mki {x : Operand} {t : TypeId} {v : Value} (ho : o.op = .makeInterface t x) (hx : Has ws a0 Γ x (Is v)) (hr : ∀ w : World, (Instr.makeInterface t v).run Tryz.prog w = .ok (.iface t v) w)
    (h : softG Tryz.prog B w0 ws L full a0 K n l ((o.dst, Is (.iface t v)) :: Γ)) (hlv : Live full ws a0 Γ o := by first | exact ⟨rfl, Or.inl rfl⟩ | exact live_of rfl rfl rfl (fun _ _ _ h => h)) : softG Tryz.prog B w0 ws L full a0 K (n + 1) (o :: l) Γ :=
  g_op1 (x := x) (v := v) (by rw [ho]; exact Array.mem_singleton_self x) hx (fun w e he => by
    unfold execOp
    simp only [ho, he]
    rw [Sem.run_bind, hr w]
    rfl) h hlv
theorem g_bld2 {x y : Operand} {t : TypeId} {i j : Nat} {v u : Value} {r : Value} (ho : o.op = .build t #[(i, x), (j, y)]) (hx : Has ws a0 Γ x (Is v)) (hy : Has ws a0 Γ y (Is u)) (hr : ∀ w : World, (Instr.build t #[(i, v), (j, u)]).run Tryz.prog w = .ok r w)
    (h : softG Tryz.prog B w0 ws L full a0 K n l ((o.dst, Is r) :: Γ)) (hlv : Live full ws a0 Γ o := by first | exact ⟨rfl, Or.inl rfl⟩ | exact live_of rfl rfl rfl (fun _ _ _ h => h)) : softG Tryz.prog B w0 ws L full a0 K (n + 1) (o :: l) Γ :=
  g_two (x := x) (y := y) (by rw [ho]; exact Array.mem_def.2 (List.Mem.head _)) (by rw [ho]; exact Array.mem_def.2 (List.Mem.tail _ (List.Mem.head _))) hx hy (fun w e h1 h2 => by
    unfold execOp
    simp only [ho]
    rw [show (#[(i, x), (j, y)] : Array (Nat × Operand)).map (fun (i, x) => (i, e x)) = #[(i, v), (j, u)] by simp [h1, h2], Sem.run_bind, hr w]
    rfl) h hlv
/-- Known arguments. -/
def KArgs (ws : World) (a0 : Act) (Γ : Env) : List Operand → List Value → Prop
  | [], [] => True
  | x :: xs, v :: vs => Has ws a0 Γ x (Is v) ∧ KArgs ws a0 Γ xs vs
  | _, _ => False
theorem kargs_map {w : World} {e : Operand → Value} (hb : Below ws.heap.size ws w) : ∀ {xs : List Operand} {vs : List Value}, KArgs ws a0 Γ xs vs → (∀ x, x ∈ xs → AtE a0 Γ w x (e x)) → xs.map e = vs := by
  intro xs
  induction xs with
  | nil => intro vs h _; cases vs with | nil => rfl | cons => cases h
  | cons x xs ih =>
    intro vs h hat
    cases vs with
    | nil => cases h
    | cons v vs =>
      have h1 : e x = v := h.1 w _ hb (hat x (List.Mem.head _))
      rw [List.map_cons, h1, ih h.2 (fun y hy => hat y (List.Mem.tail _ hy))]
/-- A call at known arguments. -/
theorem g_callK {f : FuncId} {xs : List Operand} (vs : List Value) {ats : Array TypeId} {fn : Func} {c : Code} {R : Prd} (ho : o.op = .call { callee := .value (.func f), args := xs.toArray, argTypes := ats }) (hf : Tryz.prog.funcs[f]? = some fn) (hname : (fn.name == "runtime.NumGoroutine") = false) (hb : fn.body = some c) (hst : Stb R)
    (hk : KArgs ws a0 Γ xs vs) (hc : ∀ w : World, Below ws.heap.size ws w → Calls Tryz.prog f vs.toArray w (RW R w))
    (h : softG Tryz.prog B w0 ws L full a0 K n l ((o.dst, R) :: Γ)) (hlv : Live full ws a0 Γ o := by first | exact ⟨rfl, Or.inl rfl⟩ | exact live_of rfl rfl rfl (fun _ _ _ h => h)) : softG Tryz.prog B w0 ws L full a0 K (n + 1) (o :: l) Γ :=
  g_call ho hf hname hb hst (fun w e hbl hat => by
    rw [kargs_map hbl hk hat]
    exact hc w hbl) h hlv
theorem g_lens {x : Operand} {s : ByteArray} (ho : o.op = .call { callee := .builtin .len, args := #[x], argTypes := #[9] }) (hx : Has ws a0 Γ x (Is (.string s)))
    (h : softG Tryz.prog B w0 ws L full a0 K n l ((o.dst, Is (.int .i64 (s.size : Nat))) :: Γ)) (hlv : Live full ws a0 Γ o := by first | exact ⟨rfl, Or.inl rfl⟩ | exact live_of rfl rfl rfl (fun _ _ _ h => h)) : softG Tryz.prog B w0 ws L full a0 K (n + 1) (o :: l) Γ :=
  g_one (x := x) (A := Is (.string s)) (by rw [ho]; exact Array.mem_def.2 (List.Mem.head _)) hx (fun w e _ he => by
    have he : e x = .string s := he
    have hl := run_len_string (P := Tryz.prog) w 9 o.type s Tryz.underlying9
    unfold execOp
    simp [ho, resolve, invoke, builtin, he, hl, Result.andThen, goInt]) h hlv
theorem g_lenl {x : Operand} {t : TypeId} {ad : Option Addr} {m c : Nat} (ho : o.op = .call { callee := .builtin .len, args := #[x], argTypes := #[t] }) (ht : Tryz.prog.underlying t = some (.slice (Tryz.prog.elem t))) (hx : Has ws a0 Γ x (Is (.slice ad m c)))
    (h : softG Tryz.prog B w0 ws L full a0 K n l ((o.dst, Is (.int .i64 (m : Nat))) :: Γ)) (hlv : Live full ws a0 Γ o := by first | exact ⟨rfl, Or.inl rfl⟩ | exact live_of rfl rfl rfl (fun _ _ _ h => h)) : softG Tryz.prog B w0 ws L full a0 K (n + 1) (o :: l) Γ :=
  g_one (x := x) (A := Is (.slice ad m c)) (by rw [ho]; exact Array.mem_def.2 (List.Mem.head _)) hx (fun w e _ he => by
    have he : e x = .slice ad m c := he
    have hl := run_len_slice (P := Tryz.prog) w t o.type ad m c ht
    unfold execOp
    simp [ho, resolve, invoke, builtin, he, hl, Result.andThen, goInt]) h hlv
/-- A byte of a text. -/
theorem g_byte {x y : Operand} {s : ByteArray} {i : Nat} {u : UInt8} (ho : o.op = .index 9 x y) (hx : Has ws a0 Γ x (Is (.string s))) (hy : Has ws a0 Γ y (Is (.int .i64 (i : Nat)))) (hu : s.data.toList[i]? = some u)
    (h : softG Tryz.prog B w0 ws L full a0 K n l ((o.dst, Is (.int .u8 (u.toNat : Nat))) :: Γ)) (hlv : Live full ws a0 Γ o := by first | exact ⟨rfl, Or.inl rfl⟩ | exact live_of rfl rfl rfl (fun _ _ _ h => h)) : softG Tryz.prog B w0 ws L full a0 K (n + 1) (o :: l) Γ :=
  g_two (x := x) (y := y) (by rw [ho]; exact Array.mem_def.2 (List.Mem.head _)) (by rw [ho]; exact Array.mem_def.2 (List.Mem.tail _ (List.Mem.head _))) hx hy (fun w e h1 h2 => by
    obtain ⟨hlt, he⟩ := List.getElem?_eq_some_iff.1 hu
    have hlt2 : i < s.size := by have h0 := hlt; rw [Array.length_toList] at h0; exact h0
    have hg : s[i]'hlt2 = u := by rw [← he]; rfl
    have hr : (Instr.index 9 (.string s) (.int .i64 (i : Nat))).run Tryz.prog w = .ok (.int .u8 (u.toNat : Nat)) w := by
      rw [run_index_string (P := Tryz.prog) w 9 s .i64 (i : Nat) Tryz.underlying9, dif_pos ⟨by omega, by omega⟩]
      simp only [Int.toNat_natCast, hg]
    unfold execOp
    simp only [ho, h1, h2]
    rw [Sem.run_bind, hr]
    rfl) h hlv
theorem g_cutT {x y : Operand} {s : Bs} {k : Nat} (ho : o.op = .slice 9 x none (some y) none) (hx : Has ws a0 Γ x (Is (.string (bs s)))) (hy : Has ws a0 Γ y (Is (.int .i64 (k : Nat)))) (hk : k ≤ s.length)
    (h : softG Tryz.prog B w0 ws L full a0 K n l ((o.dst, Is (.string (bs (s.take k)))) :: Γ)) (hlv : Live full ws a0 Γ o := by first | exact ⟨rfl, Or.inl rfl⟩ | exact live_of rfl rfl rfl (fun _ _ _ h => h)) : softG Tryz.prog B w0 ws L full a0 K (n + 1) (o :: l) Γ :=
  g_two (x := x) (y := y) (by rw [ho]; exact Array.mem_def.2 (List.Mem.head _)) (by rw [ho]; exact Array.mem_def.2 (List.Mem.tail _ (List.Mem.head _))) hx hy (fun w e h1 h2 => by
    have hr := run_cutS_h (P := Tryz.prog) (t := 9) (s := bs s) (h := k) Tryz.underlying9 (by rw [bs_size]; exact hk) w
    rw [bs_cut, List.drop_zero] at hr
    unfold execOp
    simp only [ho, h1, h2, Option.map_none, Option.map_some]
    rw [Sem.run_bind, hr]
    rfl) h hlv
theorem g_cutD {x y : Operand} {s : Bs} {k : Nat} (ho : o.op = .slice 9 x (some y) none none) (hx : Has ws a0 Γ x (Is (.string (bs s)))) (hy : Has ws a0 Γ y (Is (.int .i64 (k : Nat)))) (hk : k ≤ s.length)
    (h : softG Tryz.prog B w0 ws L full a0 K n l ((o.dst, Is (.string (bs (s.drop k)))) :: Γ)) (hlv : Live full ws a0 Γ o := by first | exact ⟨rfl, Or.inl rfl⟩ | exact live_of rfl rfl rfl (fun _ _ _ h => h)) : softG Tryz.prog B w0 ws L full a0 K (n + 1) (o :: l) Γ :=
  g_two (x := x) (y := y) (by rw [ho]; exact Array.mem_def.2 (List.Mem.head _)) (by rw [ho]; exact Array.mem_def.2 (List.Mem.tail _ (List.Mem.head _))) hx hy (fun w e h1 h2 => by
    have hr := run_cutS_l (P := Tryz.prog) (t := 9) (s := bs s) (l := k) Tryz.underlying9 (by rw [bs_size]; exact hk) w
    rw [bs_size, bs_cut, List.take_of_length_le (Nat.le_refl _)] at hr
    unfold execOp
    simp only [ho, h1, h2, Option.map_none, Option.map_some]
    rw [Sem.run_bind, hr]
    rfl) h hlv
/-- A block that the region made. -/
def NewP (N : Nat) (t : TypeId) (z : Array Value) : Prd := fun w v => ∃ g, v = .pointer (some ⟨g, 0, none⟩) ∧ N ≤ g ∧ w.heap[g]? = some (.cells z t (0, 0))
theorem stb_new (N : Nat) (t : TypeId) (z : Array Value) : Stb (NewP N t z) := fun _ _ _ hb ⟨g, h1, h2, h3⟩ => ⟨g, h1, h2, (hb.block g (Array.getElem?_eq_some_iff.1 h3).1).trans h3⟩
theorem g_alloc {t : TypeId} {z : Array Value} (ho : o.op = .alloc t) (hz : ∀ w : World, (zeroValue t).run Tryz.prog w = .ok (.agg z) w)
    (h : softG Tryz.prog B w0 ws L full a0 K n l ((o.dst, NewP ws.heap.size t z) :: Γ)) (hlv : Live full ws a0 Γ o := by first | exact ⟨rfl, Or.inl rfl⟩ | exact live_of rfl rfl rfl (fun _ _ _ h => h)) : softG Tryz.prog B w0 ws L full a0 K (n + 1) (o :: l) Γ :=
  g_any (stb_new _ _ _) (fun w e _ hb _ => by
    unfold execOp
    simp only [ho, Instr.alloc, Sem.run_bind, hz, Result.andThen_ok]
    exact ⟨⟨w.heap.size, rfl, hb.size, heap_alloc_new _ _⟩, b_alloc _ _⟩) h hlv
/-- A value out of a list. -/
theorem g_ldd {x : Operand} {b k : Nat} {vs : List Value} {R : Prd} (ho : o.op = .load 24 x) (hx : Has ws a0 Γ x (Is (.pointer (some ⟨b, k, none⟩)))) (h5 : vs.length = 5) (hc : ∀ w, Below ws.heap.size ws w → ∀ j v, vs[j]? = some v → w.cell? ⟨b, k + j, none⟩ = some v)
    (hst : Stb R) (hr : ∀ w, Below ws.heap.size ws w → R w (.agg vs.toArray)) (h : softG Tryz.prog B w0 ws L full a0 K n l ((o.dst, R) :: Γ)) (hlv : Live full ws a0 Γ o := by first | exact ⟨rfl, Or.inl rfl⟩ | exact live_of rfl rfl rfl (fun _ _ _ h => h)) : softG Tryz.prog B w0 ws L full a0 K (n + 1) (o :: l) Γ :=
  g_val (x := x) (A := Is (.pointer (some ⟨b, k, none⟩))) hst (by rw [ho]; exact Array.mem_singleton_self x) hx (fun w e _ hb he => by
    have hl : (loadCells ⟨b, k, none⟩ vs.length).run Tryz.prog w = .ok vs.toArray w := run_loadCells_list (P := Tryz.prog) w ⟨b, k, none⟩ vs (fun j v hv => by rw [addr_add]; exact hc w hb j v hv)
    rw [h5] at hl
    have hagg : (isAgg 24).run Tryz.prog w = .ok true w := by
      unfold isAgg
      rw [Sem.run_bind, run_underlying Tryz.underlying24 w]
      rfl
    have h1 : (Instr.loadAt 24 (.pointer (some ⟨b, k, none⟩))).run Tryz.prog w = .ok (.agg vs.toArray) w := by
      simp [Instr.loadAt, Instr.sureAddr, loadVar, Sem.run_bind, hagg, hl]
    refine ⟨.agg vs.toArray, ?_, hr w hb⟩
    have he : e x = .pointer (some ⟨b, k, none⟩) := he
    unfold execOp
    simp only [ho, he]
    rw [Sem.run_bind, h1]
    rfl) h hlv
/-- A known value, in worlds that come behind one. -/
def AtW (w : World) (v : Value) : Prd := fun u x => x = v ∧ Below w.heap.size w u
theorem stb_atw (w : World) (v : Value) : Stb (AtW w v) := fun _ _ _ hb ⟨h1, h2⟩ => ⟨h1, h2.trans (hb.mono h2.size)⟩
theorem rw_b {v : Value} {w w' : World} {e : Ending} (h : e = .returned v ∧ Below w.heap.size w w') : RW (Is v) w e w' := rw_below h
end
end Go.Proofs.YtebhiplcoioenaaGreatDoor
