/- Soft steps for texts that are cut; a call's end with a struct and two more results. -/
import Derived.Test.YtipjkjcmceeaeaaGreatDoorYReq
import Derived.IntWalk
namespace Go.Proofs.YtipjkjcmceeaeaaGreatDoor
open Go.RowKit

theorem run_cutS_h {P : Program} {t : TypeId} {s : ByteArray} {h : Nat} (ht : P.underlying t = some .string) (hh : h ≤ s.size) (w : World) : (Instr.sliceAt t (.string s) none (some (.int .i64 (h : Int))) none).run P w = .ok (.string (s.extract 0 h)) w := by
  rw [run_sliceAt_string (h := ht)]
  simp [Instr.slice, run_underlying ht, Instr.sliceBounds, run_sliceBound, Sem.run_bind, Result.andThen, hh]
theorem run_cutS_l {P : Program} {t : TypeId} {s : ByteArray} {l : Nat} (ht : P.underlying t = some .string) (hl : l ≤ s.size) (w : World) : (Instr.sliceAt t (.string s) (some (.int .i64 (l : Int))) none none).run P w = .ok (.string (s.extract l s.size)) w := by
  rw [run_sliceAt_string (h := ht)]
  simp [Instr.slice, run_underlying ht, Instr.sliceBounds, run_sliceBound, Sem.run_bind, Result.andThen, hl]
section
variable {B : Nat} {w0 ws : World} {L : List (Nat × Array Value × TypeId)} {full : List Oper} {a0 : Act} {K : Act → World → Prop} {n : Nat} {l : List Oper} {o : Oper} {Γ : Env}
theorem g_cutT {x y : Operand} {s : Bs} {k : Nat} (ho : o.op = .slice 9 x none (some y) none) (hx : Has ws a0 Γ x (Is (.string (bs s)))) (hy : Has ws a0 Γ y (Is (.int .i64 (k : Nat)))) (hk : k ≤ s.length)
    (h : softG Tryz.prog B w0 ws L full a0 K n l ((o.dst, Is (.string (bs (s.take k)))) :: Γ)) (hlv : Live full ws a0 Γ o := by first | exact ⟨rfl, Or.inl rfl⟩ | exact live_of rfl rfl rfl (fun _ _ _ h => h)) : softG Tryz.prog B w0 ws L full a0 K (n + 1) (o :: l) Γ :=
  g_two (x := x) (y := y) (by rw [ho]; exact Array.mem_def.2 (List.Mem.head _)) (by rw [ho]; exact Array.mem_def.2 (List.Mem.tail _ (List.Mem.head _))) hx hy (fun w e h1 h2 => by
    have hr := run_cutS_h (P := Tryz.prog) (t := 9) (s := bs s) (h := k) Tryz.underlying9 (by rw [bs_size]; exact hk) w
    rw [bs_cut, List.drop_zero] at hr
    unfold execOp
    simp only [ho, h1, h2, Option.map_none, Option.map_some]
    rw [Sem.run_bind, hr]
    rfl) h hlv
theorem g_cutD {x y : Operand} {s : Bs} {k : Nat} (ho : o.op = .slice 9 x (some y) none none) (hx : Has ws a0 Γ x (Is (.string (bs s)))) (hy : Has ws a0 Γ y (Is (.int .i64 (k : Nat)))) (hk : k ≤ s.length)
    (h : softG Tryz.prog B w0 ws L full a0 K n l ((o.dst, Is (.string (bs (s.drop k)))) :: Γ)) (hlv : Live full ws a0 Γ o := by first | exact ⟨rfl, Or.inl rfl⟩ | exact live_of rfl rfl rfl (fun _ _ _ h => h)) : softG Tryz.prog B w0 ws L full a0 K (n + 1) (o :: l) Γ :=
  g_two (x := x) (y := y) (by rw [ho]; exact Array.mem_def.2 (List.Mem.head _)) (by rw [ho]; exact Array.mem_def.2 (List.Mem.tail _ (List.Mem.head _))) hx hy (fun w e h1 h2 => by
    have hr := run_cutS_l (P := Tryz.prog) (t := 9) (s := bs s) (l := k) Tryz.underlying9 (by rw [bs_size]; exact hk) w
    rw [bs_size, bs_cut, List.take_of_length_le (Nat.le_refl _)] at hr
    unfold execOp
    simp only [ho, h1, h2, Option.map_none, Option.map_some]
    rw [Sem.run_bind, hr]
    rfl) h hlv
/-- A block that the region made. -/
def NewP (N : Nat) (t : TypeId) (z : Array Value) : Prd := fun w v => ∃ g, v = .pointer (some ⟨g, 0, none⟩) ∧ N ≤ g ∧ w.heap[g]? = some (.cells z t (0, 0))
theorem stb_new (N : Nat) (t : TypeId) (z : Array Value) : Stb (NewP N t z) := fun _ _ _ hb ⟨g, h1, h2, h3⟩ => ⟨g, h1, h2, (hb.block g (Array.getElem?_eq_some_iff.1 h3).1).trans h3⟩
theorem g_alloc {t : TypeId} {z : Array Value} (ho : o.op = .alloc t) (hz : ∀ w : World, (zeroValue t).run Tryz.prog w = .ok (.agg z) w)
    (h : softG Tryz.prog B w0 ws L full a0 K n l ((o.dst, NewP ws.heap.size t z) :: Γ)) (hlv : Live full ws a0 Γ o := by first | exact ⟨rfl, Or.inl rfl⟩ | exact live_of rfl rfl rfl (fun _ _ _ h => h)) : softG Tryz.prog B w0 ws L full a0 K (n + 1) (o :: l) Γ :=
  g_any (stb_new _ _ _) (fun w e _ hb _ => by
    unfold execOp
    simp only [ho, Instr.alloc, Sem.run_bind, hz, Result.andThen_ok]
    exact ⟨⟨w.heap.size, rfl, hb.size, heap_alloc_new _ _⟩, b_alloc _ _⟩) h hlv
end
theorem results_cell_tmp_tmp {fn : Func} {p x y : Tmp} {ty : TypeId} (h : fn.results = #[.cell p ty, .tmp x, .tmp y]) (tmps : Array Value) (P : Program) (w : World) :
    (results fn tmps).run P w = ((asAddr (tmps.getD p undef)).run P w).andThen fun a w₁ => ((loadVar ty a).run P w₁).andThen fun v w₂ => .ok (.tuple #[v, tmps.getD x undef, tmps.getD y undef]) w₂ := by
  simp only [results, h]
  simp [Sem.run_bind, Result.andThen]
section
variable {P : Program} {o : Oper} {a : Act} {B : Nat} {w0 w : World} {L L' : List (Nat × Array Value × TypeId)}
/-- A call's end with a struct in a variable, and two other results. -/
theorem bodyPost_ctt {fn : Func} {R : Ending → World → Prop} {p x y : Tmp} {ty : TypeId} (hf : fn.results = #[.cell p ty, .tmp x, .tmp y]) (h : Rws B w0 w L) (g : Nat) (hp : a.tmps.getD p undef = .pointer (some ⟨g, 0, none⟩))
    (cs : Array Value) (t : TypeId) (hm : (g, cs, t) ∈ L) (d : TypeDesc) (hu : P.underlying ty = some d) (hd : (match d with | .struct _ | .array _ _ => true | _ => false) = true)
    (hi : (P.info? ty).map (·.size) = some cs.size)
    (v : Value) (hv : a.tmps.getD x undef = v) (u : Value) (hv' : a.tmps.getD y undef = u) (hdef : a.defers = []) (hR : Below B w0 w → R (.returned (.tuple #[.agg cs, v, u])) w) : bodyPost P fn R .ret a w := by
  refine bodyPost_ret (v := .tuple #[.agg cs, v, u]) ?_ hdef (hR h.below)
  rw [results_cell_tmp_tmp hf, hp, hv, hv']
  simp [asAddr, Result.andThen, run_loadVar_row w g t ty cs (0, 0) d (h.row _ hm).2 hu hd hi]
end
theorem RowC.same {w w' : World} {xs : List Value} {b f : Nat} (h : RowC w xs b f) (hb : w'.heap[b]? = w.heap[b]?) : RowC w' xs b f := fun j u hj => by
  have := h j u hj
  simp only [World.cell?, hb] at this ⊢
  exact this
theorem bin_addi (a b r : Nat) (h : a + b = r) (hr : r ≤ 4294967296) (W : World) : (binOp .add 3 (.int .i64 (a : Nat)) (.int .i64 (b : Nat))).run Tryz.prog W = .ok (.int .i64 (r : Nat)) W := by
  have e : (binOp .add 3 (.int .i64 (a : Nat)) (.int .i64 (b : Nat))).run Tryz.prog W = .ok (.int .i64 (IntKind.i64.wrap ((a : Int) + (b : Int)))) W := by rfl
  rw [e, IntWalk.i64_in _ ⟨by omega, by omega⟩]
  rw [← h]; rfl
theorem Rws.push {B : Nat} {w0 ws w : World} {L : List (Nat × Array Value × TypeId)} (h : Rws B w0 w L) (hs : Rws B w0 ws L) {g : Nat} {z : Array Value} {t : TypeId} (hg : ws.heap.size ≤ g) (hh : w.heap[g]? = some (.cells z t (0, 0))) : Rws B w0 w ((g, z, t) :: L) :=
  h.add (Nat.le_trans hs.len hg) hh fun _ hx => Nat.ne_of_lt (Nat.lt_of_lt_of_le (hs.lt hx) hg)
end Go.Proofs.YtipjkjcmceeaeaaGreatDoor
