/- Further steps of soft regions: parts of variables, places in slices, lengths, calls. -/
import Derived.Test.YtipjkjcmceeaeaaGreatDoorYGSteps
namespace Go.Proofs.YtipjkjcmceeaeaaGreatDoor
open Go.RowKit

theorem isAgg_str : ∀ w : World, (isAgg 9).run Tryz.prog w = .ok false w := Tryz.isAgg9
theorem isAgg_int : ∀ w : World, (isAgg 3).run Tryz.prog w = .ok false w := Tryz.isAgg3
theorem isAgg_hds : ∀ w : World, (isAgg 22).run Tryz.prog w = .ok false w := Tryz.isAgg22
theorem isAgg_u8 : ∀ w : World, (isAgg 5).run Tryz.prog w = .ok false w := Tryz.isAgg5
theorem rq_inf : (Tryz.prog.info? 24).map (·.size) = some 4 := by kernel_rfl
theorem hd_inf : (Tryz.prog.info? 52).map (·.size) = some 2 := by kernel_rfl
/-- What a call answers is such; nothing that was there has changed. -/
def RW (R : Prd) (w : World) : Ending → World → Prop := fun en w' => ∃ v, en = .returned v ∧ R w' v ∧ Below w.heap.size w w'
theorem rw_same {v : Value} {w : World} {e : Ending} {w' : World} (h : e = .returned v ∧ w' = w) : RW (Is v) w e w' := by
  obtain ⟨rfl, rfl⟩ := h
  exact ⟨_, rfl, rfl, Below.refl _ _⟩
theorem rw_below {v : Value} {w : World} {e : Ending} {w' : World} (h : e = .returned v ∧ Below w.heap.size w w') : RW (Is v) w e w' := ⟨_, h.1, rfl, h.2⟩
theorem bin_eqs (a b : ByteArray) {r : Bool} (h : (a.toList == b.toList) = r) (W : World) : (binOp .eql 9 (.string a) (.string b)).run Tryz.prog W = .ok (.bool r) W := by
  rw [← h]; kernel_rfl
theorem bin_nes (a b : ByteArray) {r : Bool} (h : (a.toList == b.toList) = r) (W : World) : (binOp .neq 9 (.string a) (.string b)).run Tryz.prog W = .ok (.bool (!r)) W := by
  rw [← h]; kernel_rfl
theorem bin_neu (a b : Int) {r : Bool} (h : (a == b) = r) (W : World) : (binOp .neq 5 (.int .u8 a) (.int .u8 b)).run Tryz.prog W = .ok (.bool (!r)) W := by
  rw [← h]; kernel_rfl
theorem bin_equ (a b : Int) {r : Bool} (h : (a == b) = r) (W : World) : (binOp .eql 5 (.int .u8 a) (.int .u8 b)).run Tryz.prog W = .ok (.bool r) W := by
  rw [← h]; kernel_rfl
theorem bin_eqi (a b : Int) {r : Bool} (h : (a == b) = r) (W : World) : (binOp .eql 3 (.int .i64 a) (.int .i64 b)).run Tryz.prog W = .ok (.bool r) W := by
  rw [← h]; kernel_rfl
theorem bin_eqe (a b : Int) {r : Bool} (h : (a == b) = r) (W : World) : (binOp .eql 25 (.int .i64 a) (.int .i64 b)).run Tryz.prog W = .ok (.bool r) W := by
  rw [← h]; kernel_rfl
theorem bin_adds (a b : ByteArray) (h : a.size + b.size ≤ 9223372036854775807) (W : World) : (binOp .add 9 (.string a) (.string b)).run Tryz.prog W = .ok (.string (a ++ b)) W := by
  have h2 : (binOp .add 9 (.string a) (.string b)) = Op.stringOp .add a b := by simp [binOp]
  rw [h2]
  exact run_string_add_sum W a b h
section
variable {B : Nat} {w0 ws : World} {L : List (Nat × Array Value × TypeId)} {full : List Oper} {a0 : Act} {K : Act → World → Prop} {n : Nat} {l : List Oper} {o : Oper} {Γ : Env}
theorem g_fa {st : TypeId} {x : Operand} {i g k off : Nat} {fs : Array Field} {f : Field} (ho' : o.op = .fieldAddr st x i) (hx : Has ws a0 Γ x (Is (.pointer (some ⟨g, k, none⟩)))) (hu : Tryz.prog.underlying st = some (.struct fs)) (hf : fs[i]? = some f)
    (hs : ∃ s, (Tryz.prog.info? f.type).map (·.size) = some (s + 1)) (ho : k + f.offset = off)
    (h : softG Tryz.prog B w0 ws L full a0 K n l ((o.dst, Is (.pointer (some ⟨g, off, none⟩))) :: Γ)) (hlv : Live full ws a0 Γ o := by first | exact ⟨rfl, Or.inl rfl⟩ | exact live_of rfl rfl rfl (fun _ _ _ h => h)) : softG Tryz.prog B w0 ws L full a0 K (n + 1) (o :: l) Γ :=
  g_val (x := x) (A := Is (.pointer (some ⟨g, k, none⟩))) (stb_is _) (by rw [ho']; exact Array.mem_singleton_self x) hx (fun w e _ _ he => by
    obtain ⟨s, hs⟩ := hs
    have h0 : (sizeOf f.type).run Tryz.prog w = .ok (s + 1) w := by
      cases hq : Tryz.prog.info? f.type with
      | none => simp [hq] at hs
      | some i =>
        have : i.size = s + 1 := by simpa [hq] using hs
        simp [sizeOf, typeInfo, hq, this, Sem.run_bind]
    have h1 : (Instr.fieldAt st (.pointer (some ⟨g, k, none⟩)) i).run Tryz.prog w = .ok (.pointer (some ⟨g, off, none⟩)) w := by
      unfold Instr.fieldAt
      rw [Sem.run_bind, run_underlying hu w]
      simp [Result.andThen, hf, Instr.sureAddr, fieldPlace, Sem.run_bind, h0, addr_add, ho]
    refine ⟨.pointer (some ⟨g, off, none⟩), ?_, rfl⟩
    have he : e x = .pointer (some ⟨g, k, none⟩) := he
    unfold execOp
    simp only [ho', he]
    rw [Sem.run_bind, h1]
    rfl) h hlv
/-- One cell, of what doesn't change. -/
theorem g_cellw {t : TypeId} {x : Operand} {g k : Nat} {v : Value} {R : Prd} (ho : o.op = .load t x) (hx : Has ws a0 Γ x (Is (.pointer (some ⟨g, k, none⟩)))) (hc : ∀ w, Below ws.heap.size ws w → w.cell? ⟨g, k, none⟩ = some v) (hag : ∀ w : World, (isAgg t).run Tryz.prog w = .ok false w)
    (hst : Stb R) (hr : ∀ w, Below ws.heap.size ws w → R w v) (h : softG Tryz.prog B w0 ws L full a0 K n l ((o.dst, R) :: Γ)) (hlv : Live full ws a0 Γ o := by first | exact ⟨rfl, Or.inl rfl⟩ | exact live_of rfl rfl rfl (fun _ _ _ h => h)) : softG Tryz.prog B w0 ws L full a0 K (n + 1) (o :: l) Γ :=
  g_val (x := x) (A := Is (.pointer (some ⟨g, k, none⟩))) hst (by rw [ho]; exact Array.mem_singleton_self x) hx (fun w e _ hb he => by
    have hcell := hc w hb
    have h1 : (Instr.loadAt t (.pointer (some ⟨g, k, none⟩))).run Tryz.prog w = .ok v w := by
      simp [Instr.loadAt, Instr.sureAddr, loadVar, Sem.run_bind, hag, run_load, hcell]
    have he : e x = .pointer (some ⟨g, k, none⟩) := he
    refine ⟨v, ?_, hr w hb⟩
    unfold execOp
    simp only [ho, he]
    rw [Sem.run_bind, h1]
    rfl) h hlv
theorem g_ixh {x y : Operand} {b f len c i : Nat} (ho : o.op = .indexAddr 22 x y) (hx : Has ws a0 Γ x (Is (.slice (some ⟨b, f, none⟩) len c))) (hy : Has ws a0 Γ y (Is (.int .i64 (i : Int)))) (hi : i < len)
    (h : softG Tryz.prog B w0 ws L full a0 K n l ((o.dst, Is (.pointer (some ⟨b, f + i * 2, none⟩))) :: Γ)) (hlv : Live full ws a0 Γ o := by first | exact ⟨rfl, Or.inl rfl⟩ | exact live_of rfl rfl rfl (fun _ _ _ h => h)) : softG Tryz.prog B w0 ws L full a0 K (n + 1) (o :: l) Γ :=
  g_two (x := x) (y := y) (by rw [ho]; exact Array.mem_def.2 (List.Mem.head _)) (by rw [ho]; exact Array.mem_def.2 (List.Mem.tail _ (List.Mem.head _))) hx hy (fun w e h1 h2 => by
    have hr : (Instr.indexAt 22 (.slice (some ⟨b, f, none⟩) len c) (.int .i64 (i : Int))).run Tryz.prog w = .ok (.pointer (some ⟨b, f + i * 2, none⟩)) w := by
      rw [run_indexAt_slice (h := by kernel_rfl), if_pos ⟨by omega, by omega⟩]
      have hs : (sizeOf (Tryz.prog.elem 22)).run Tryz.prog w = .ok 2 w := by kernel_rfl
      rw [hs]
      show Result.ok (Value.pointer (some ((⟨b, f, none⟩ : Addr).add ((i : Int).toNat * 2)))) w = _
      rw [Int.toNat_natCast, Addr.add_lit]
    unfold execOp
    simp only [ho, h1, h2]
    rw [Sem.run_bind, hr]
    rfl) h hlv
theorem g_ixs {x y : Operand} {b f len c i : Nat} (ho : o.op = .indexAddr 31 x y) (hx : Has ws a0 Γ x (Is (.slice (some ⟨b, f, none⟩) len c))) (hy : Has ws a0 Γ y (Is (.int .i64 (i : Int)))) (hi : i < len)
    (h : softG Tryz.prog B w0 ws L full a0 K n l ((o.dst, Is (.pointer (some ⟨b, f + i * 1, none⟩))) :: Γ)) (hlv : Live full ws a0 Γ o := by first | exact ⟨rfl, Or.inl rfl⟩ | exact live_of rfl rfl rfl (fun _ _ _ h => h)) : softG Tryz.prog B w0 ws L full a0 K (n + 1) (o :: l) Γ :=
  g_two (x := x) (y := y) (by rw [ho]; exact Array.mem_def.2 (List.Mem.head _)) (by rw [ho]; exact Array.mem_def.2 (List.Mem.tail _ (List.Mem.head _))) hx hy (fun w e h1 h2 => by
    have hr : (Instr.indexAt 31 (.slice (some ⟨b, f, none⟩) len c) (.int .i64 (i : Int))).run Tryz.prog w = .ok (.pointer (some ⟨b, f + i * 1, none⟩)) w := by
      rw [run_indexAt_slice (h := by kernel_rfl), if_pos ⟨by omega, by omega⟩]
      have hs : (sizeOf (Tryz.prog.elem 31)).run Tryz.prog w = .ok 1 w := by kernel_rfl
      rw [hs]
      show Result.ok (Value.pointer (some ((⟨b, f, none⟩ : Addr).add ((i : Int).toNat * 1)))) w = _
      rw [Int.toNat_natCast, Addr.add_lit]
    unfold execOp
    simp only [ho, h1, h2]
    rw [Sem.run_bind, hr]
    rfl) h hlv
/-- An operation on one known value, or on none, that only reads: its answer is known. -/
theorem g_op1 {x : Operand} {v r : Value} (hm : x ∈ o.op.operands) (hx : Has ws a0 Γ x (Is v)) (hr : ∀ (w : World) (e : Operand → Value), e x = v → (execOp e o).run Tryz.prog w = .ok (.value r) w)
    (h : softG Tryz.prog B w0 ws L full a0 K n l ((o.dst, Is r) :: Γ)) (hlv : Live full ws a0 Γ o := by first | exact ⟨rfl, Or.inl rfl⟩ | exact live_of rfl rfl rfl (fun _ _ _ h => h)) : softG Tryz.prog B w0 ws L full a0 K (n + 1) (o :: l) Γ :=
  g_any (stb_is _) (fun w e _ hb hat => by
    have h1 : e x = v := hx w (e x) hb (hat x hm)
    rw [hr w e h1]
    exact ⟨rfl, Below.refl _ _⟩) h hlv
theorem g_mki {x : Operand} {t : TypeId} {v : Value} (ho : o.op = .makeInterface t x) (hx : Has ws a0 Γ x (Is v)) (hr : ∀ w : World, (Instr.makeInterface t v).run Tryz.prog w = .ok (.iface t v) w)
    (h : softG Tryz.prog B w0 ws L full a0 K n l ((o.dst, Is (.iface t v)) :: Γ)) (hlv : Live full ws a0 Γ o := by first | exact ⟨rfl, Or.inl rfl⟩ | exact live_of rfl rfl rfl (fun _ _ _ h => h)) : softG Tryz.prog B w0 ws L full a0 K (n + 1) (o :: l) Γ :=
  g_op1 (x := x) (v := v) (by rw [ho]; exact Array.mem_singleton_self x) hx (fun w e he => by
    unfold execOp
    simp only [ho, he]
    rw [Sem.run_bind, hr w]
    rfl) h hlv
theorem g_bld2 {x y : Operand} {t : TypeId} {i j : Nat} {v u : Value} {r : Value} (ho : o.op = .build t #[(i, x), (j, y)]) (hx : Has ws a0 Γ x (Is v)) (hy : Has ws a0 Γ y (Is u)) (hr : ∀ w : World, (Instr.build t #[(i, v), (j, u)]).run Tryz.prog w = .ok r w)
    (h : softG Tryz.prog B w0 ws L full a0 K n l ((o.dst, Is r) :: Γ)) (hlv : Live full ws a0 Γ o := by first | exact ⟨rfl, Or.inl rfl⟩ | exact live_of rfl rfl rfl (fun _ _ _ h => h)) : softG Tryz.prog B w0 ws L full a0 K (n + 1) (o :: l) Γ :=
  g_two (x := x) (y := y) (by rw [ho]; exact Array.mem_def.2 (List.Mem.head _)) (by rw [ho]; exact Array.mem_def.2 (List.Mem.tail _ (List.Mem.head _))) hx hy (fun w e h1 h2 => by
    unfold execOp
    simp only [ho]
    rw [show (#[(i, x), (j, y)] : Array (Nat × Operand)).map (fun (i, x) => (i, e x)) = #[(i, v), (j, u)] by simp [h1, h2], Sem.run_bind, hr w]
    rfl) h hlv
/-- Known arguments. -/
def KArgs (ws : World) (a0 : Act) (Γ : Env) : List Operand → List Value → Prop
  | [], [] => True
  | x :: xs, v :: vs => Has ws a0 Γ x (Is v) ∧ KArgs ws a0 Γ xs vs
  | _, _ => False
theorem kargs_map {w : World} {e : Operand → Value} (hb : Below ws.heap.size ws w) : ∀ {xs : List Operand} {vs : List Value}, KArgs ws a0 Γ xs vs → (∀ x, x ∈ xs → AtE a0 Γ w x (e x)) → xs.map e = vs := by
  intro xs
  induction xs with
  | nil => intro vs h _; cases vs with | nil => rfl | cons => cases h
  | cons x xs ih =>
    intro vs h hat
    cases vs with
    | nil => cases h
    | cons v vs =>
      have h1 : e x = v := h.1 w _ hb (hat x (List.Mem.head _))
      rw [List.map_cons, h1, ih h.2 (fun y hy => hat y (List.Mem.tail _ hy))]
/-- A call at known arguments. -/
theorem g_callK {f : FuncId} {xs : List Operand} (vs : List Value) {ats : Array TypeId} {fn : Func} {c : Code} {R : Prd} (ho : o.op = .call { callee := .value (.func f), args := xs.toArray, argTypes := ats }) (hf : Tryz.prog.funcs[f]? = some fn) (hname : (fn.name == "runtime.NumGoroutine") = false) (hb : fn.body = some c) (hst : Stb R)
    (hk : KArgs ws a0 Γ xs vs) (hc : ∀ w : World, Below ws.heap.size ws w → Calls Tryz.prog f vs.toArray w (RW R w))
    (h : softG Tryz.prog B w0 ws L full a0 K n l ((o.dst, R) :: Γ)) (hlv : Live full ws a0 Γ o := by first | exact ⟨rfl, Or.inl rfl⟩ | exact live_of rfl rfl rfl (fun _ _ _ h => h)) : softG Tryz.prog B w0 ws L full a0 K (n + 1) (o :: l) Γ :=
  g_call ho hf hname hb hst (fun w e hbl hat => by
    rw [kargs_map hbl hk hat]
    exact hc w hbl) h hlv
theorem g_lens {x : Operand} {s : ByteArray} (ho : o.op = .call { callee := .builtin .len, args := #[x], argTypes := #[9] }) (hx : Has ws a0 Γ x (Is (.string s)))
    (h : softG Tryz.prog B w0 ws L full a0 K n l ((o.dst, Is (.int .i64 (s.size : Nat))) :: Γ)) (hlv : Live full ws a0 Γ o := by first | exact ⟨rfl, Or.inl rfl⟩ | exact live_of rfl rfl rfl (fun _ _ _ h => h)) : softG Tryz.prog B w0 ws L full a0 K (n + 1) (o :: l) Γ :=
  g_one (x := x) (A := Is (.string s)) (by rw [ho]; exact Array.mem_def.2 (List.Mem.head _)) hx (fun w e _ he => by
    have he : e x = .string s := he
    have hl := run_len_string (P := Tryz.prog) w 9 o.type s Tryz.underlying9
    unfold execOp
    simp [ho, resolve, invoke, builtin, he, hl, Result.andThen, goInt]) h hlv
theorem g_lenl {x : Operand} {t : TypeId} {ad : Option Addr} {m c : Nat} (ho : o.op = .call { callee := .builtin .len, args := #[x], argTypes := #[t] }) (ht : Tryz.prog.underlying t = some (.slice (Tryz.prog.elem t))) (hx : Has ws a0 Γ x (Is (.slice ad m c)))
    (h : softG Tryz.prog B w0 ws L full a0 K n l ((o.dst, Is (.int .i64 (m : Nat))) :: Γ)) (hlv : Live full ws a0 Γ o := by first | exact ⟨rfl, Or.inl rfl⟩ | exact live_of rfl rfl rfl (fun _ _ _ h => h)) : softG Tryz.prog B w0 ws L full a0 K (n + 1) (o :: l) Γ :=
  g_one (x := x) (A := Is (.slice ad m c)) (by rw [ho]; exact Array.mem_def.2 (List.Mem.head _)) hx (fun w e _ he => by
    have he : e x = .slice ad m c := he
    have hl := run_len_slice (P := Tryz.prog) w t o.type ad m c ht
    unfold execOp
    simp [ho, resolve, invoke, builtin, he, hl, Result.andThen, goInt]) h hlv
/-- A byte of a text. -/
theorem g_byte {x y : Operand} {s : ByteArray} {i : Nat} {u : UInt8} (ho : o.op = .index 9 x y) (hx : Has ws a0 Γ x (Is (.string s))) (hy : Has ws a0 Γ y (Is (.int .i64 (i : Nat)))) (hu : s.data.toList[i]? = some u)
    (h : softG Tryz.prog B w0 ws L full a0 K n l ((o.dst, Is (.int .u8 (u.toNat : Nat))) :: Γ)) (hlv : Live full ws a0 Γ o := by first | exact ⟨rfl, Or.inl rfl⟩ | exact live_of rfl rfl rfl (fun _ _ _ h => h)) : softG Tryz.prog B w0 ws L full a0 K (n + 1) (o :: l) Γ :=
  g_two (x := x) (y := y) (by rw [ho]; exact Array.mem_def.2 (List.Mem.head _)) (by rw [ho]; exact Array.mem_def.2 (List.Mem.tail _ (List.Mem.head _))) hx hy (fun w e h1 h2 => by
    obtain ⟨hlt, he⟩ := List.getElem?_eq_some_iff.1 hu
    have hlt2 : i < s.size := by have h0 := hlt; rw [Array.length_toList] at h0; exact h0
    have hg : s[i]'hlt2 = u := by rw [← he]; rfl
    have hr : (Instr.index 9 (.string s) (.int .i64 (i : Nat))).run Tryz.prog w = .ok (.int .u8 (u.toNat : Nat)) w := by
      rw [run_index_string (P := Tryz.prog) w 9 s .i64 (i : Nat) Tryz.underlying9, dif_pos ⟨by omega, by omega⟩]
      simp only [Int.toNat_natCast, hg]
    unfold execOp
    simp only [ho, h1, h2]
    rw [Sem.run_bind, hr]
    rfl) h hlv
end
end Go.Proofs.YtipjkjcmceeaeaaGreatDoor
