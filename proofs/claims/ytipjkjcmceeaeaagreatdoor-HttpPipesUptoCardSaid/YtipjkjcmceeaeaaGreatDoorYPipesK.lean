/- Slices of requests: that came in, and that grow; their loads. -/
import Derived.Test.YtipjkjcmceeaeaaGreatDoorYLawKit
import Derived.Test.YtipjkjcmceeaeaaGreatDoorYAppB
import Derived.Test.YtipjkjcmceeaeaaGreatDoorYRHead
namespace Go.Proofs.YtipjkjcmceeaeaaGreatDoor
open Go.RowKit

/-- A request, and where its fields lie. -/
abbrev QV := Rq × Option Addr × Nat
def qvC (x : QV) : List Value := [.string (bs x.1.m), .string (bs x.1.t), .slice x.2.1 x.1.hs.length x.2.2, .string (bs x.1.b)]
def RqC (l : List QV) : List Value := l.flatMap qvC
@[reducible] def OwnQ (B : Nat) (w : World) (v : Value) (l : List QV) : Prop := w.ownsRow B 24 4 v l.length (RqC l)
def SlQ (w : World) (l : List QV) (ad : Option Addr) (c : Nat) : Prop := SlC w l.length (RqC l) ad c
theorem rqc_get : ∀ (l : List QV) (i j : Nat) (x : QV), l[i]? = some x → j < 4 → (RqC l)[i * 4 + j]? = (qvC x)[j]?
  | [], i, j, x, h, _ => by simp at h
  | a :: r, 0, j, x, h, hj => by
    simp at h; subst h
    show (qvC a ++ RqC r)[0 * 4 + j]? = _
    rw [Nat.zero_mul, Nat.zero_add, List.getElem?_append_left (by show j < 4; exact hj)]
  | a :: r, i + 1, j, x, h, hj => by
    have := rqc_get r i j x (by simpa using h) hj
    show (qvC a ++ RqC r)[(i + 1) * 4 + j]? = _
    rw [List.getElem?_append_right (by show 4 ≤ _; omega), ← this]
    congr 1
    show (i + 1) * 4 + j - 4 = _
    omega
theorem rq_cells {w : World} {l : List QV} {b f i : Nat} {x : QV} (hr : RowC w (RqC l) b f) (hx : l[i]? = some x) : w.cell? ⟨b, f + i * 4, none⟩ = some (.string (bs x.1.m)) ∧ w.cell? ⟨b, f + i * 4 + 1, none⟩ = some (.string (bs x.1.t)) ∧ w.cell? ⟨b, f + i * 4 + 2, none⟩ = some (.slice x.2.1 x.1.hs.length x.2.2) ∧ w.cell? ⟨b, f + i * 4 + 3, none⟩ = some (.string (bs x.1.b)) := by
  have key : ∀ j u, j < 4 → (qvC x)[j]? = some u → w.cell? ⟨b, f + i * 4 + j, none⟩ = some u := fun j u hj hu => by
    have := hr (i * 4 + j) u (by rw [rqc_get l i j x hx hj]; exact hu)
    rw [show f + i * 4 + j = f + (i * 4 + j) by omega]; exact this
  exact ⟨key 0 _ (by omega) rfl, key 1 _ (by omega) rfl, key 2 _ (by omega) rfl, key 3 _ (by omega) rfl⟩
theorem info_rq : (Tryz.prog.info? 24).map (fun i => (i.zero, i.size, i.bytes)) = some (some (.agg zQ), 4, 72) := by kernel_rfl
theorem rowM_grown {w w' : World} {B g cap gl : Nat} {l : Bs} (h : RowM w B g cap l) (hg : w.grownBy w' (some gl)) (hne : g ≠ gl) : RowM w' B g cap l := by
  obtain ⟨cur, fz, h1, hh, r⟩ := h
  exact ⟨cur, fz, h1, by rw [hg.block g (Array.getElem?_eq_some_iff.1 hh).1 (by simpa using hne)]; exact hh, r⟩
theorem rowM_own {w w' : World} {B g cap : Nat} {l : Bs} {l2 : List QV} {v : Value} (h : RowM w B g cap l) (ho : OwnQ B w v l2) (hg : w.grownBy w' v.ownBlock) : RowM w' B g cap l := by
  obtain ⟨cur, fz, h1, hh, r⟩ := h
  refine ⟨cur, fz, h1, ?_, r⟩
  rw [hg.block g (Array.getElem?_eq_some_iff.1 hh).1 ?_]; exact hh
  obtain ⟨_, ⟨rfl, _⟩ | ⟨g2, _, _, rfl, _, hh2, _⟩⟩ := ho
  · simp [Value.ownBlock]
  · intro e
    simp only [Value.ownBlock, Option.some.injEq] at e
    rw [e, hh2] at hh
    simp only [Option.some.injEq, Obj.cells.injEq] at hh
    exact absurd hh.2.1 (by decide)
theorem ownQ_rowM {w w' : World} {B g cap : Nat} {l : Bs} {l2 : List QV} {v : Value} (ho : OwnQ B w v l2) (h : RowM w B g cap l) (hg : w.grownBy w' (some g)) : OwnQ B w' v l2 := by
  obtain ⟨cur, fz, h1, hh, r⟩ := h
  obtain ⟨hl, hz | ⟨g2, cap2, cur2, rfl, hg2, hh2, r2⟩⟩ := ho
  · exact ⟨hl, Or.inl hz⟩
  · refine ⟨hl, Or.inr ⟨g2, cap2, cur2, rfl, hg2, ?_, r2⟩⟩
    rw [hg.block g2 (Array.getElem?_eq_some_iff.1 hh2).1 ?_]; exact hh2
    intro e
    simp only [Option.some.injEq] at e
    rw [← e, hh2] at hh
    simp only [Option.some.injEq, Obj.cells.injEq] at hh
    exact absurd hh.2.1 (by decide)
section
variable {w w1 : World} {B : Nat} {ops : Array Oper} {rest : List Oper} {o : Oper} {a : Act} {Q : Exit → Act → World → Prop} {v : Value}
/-- One more request; what lies in other blocks stays. -/
theorem wp_snocQ (hgd : o.guard = none) (s x : Operand) (ho : o.op = .call { callee := .builtin .append, args := #[s, x], argTypes := #[47, 47] })
    {l : List QV} (c : QV) (hsv : a.eval s = v) (hxv : a.eval x = .slice (some ⟨w1.heap.size, 0, none⟩) 1 1) (hO : OwnQ B w1 v l) (hb : Below B w w1) (hB : B ≤ w.heap.size) (hk : l.length + 1 ≤ 3000000)
    (h : ∀ v' w2, OwnQ B w2 v' (l ++ [c]) → Below B w w2 → (w1.alloc (.cells (qvC c).toArray 24)).grownBy w2 v.ownBlock → wpList Tryz.prog ops Q rest (a.put o.dst v') w2) : wpList Tryz.prog ops Q (o :: rest) a (w1.alloc (.cells (qvC c).toArray 24)) := by
  obtain ⟨i0, hi, hz0, hz1, hz2⟩ := info_parts info_rq
  have hnew := heap_alloc_new w1 (.cells (qvC c).toArray 24)
  have hbs := hb.size
  have hnb : (l.length + 1) * 72 ≤ 140737488355328 := Nat.le_trans (Nat.mul_le_mul hk (Nat.le_refl 72)) (by decide)
  obtain ⟨v', w2, hr, hown, hgr, _, hat⟩ := run_append_own_at (P := Tryz.prog) (w1.alloc (.cells (qvC c).toArray 24)) B 47 o.type 24 i0 (.agg zQ) 4 72 Tryz.underlying47 hi hz0 hz1 hz2 rfl (by decide) v l.length (RqC l) (hO.alloc _) ⟨w1.heap.size, 0, none⟩ 1 1 (qvC c) (by rfl) (fun k u hj => by
      rw [Addr.add_lit, Nat.zero_add]
      simp only [World.cell?, hnew]
      rw [if_neg (by simp)]
      simpa using hj) (by unfold qvC; simp [Value.oneCell']) (by unfold maxLen; omega) hnb (by simp; omega)
  refine wpList_plain hgd fun K hK => ?_
  unfold Oper.wp
  simp only [execOp, ho, resolve, invoke, builtin, Sem.run_bind, Sem.run_pure, Result.andThen_ok, List.map_toArray, List.map_cons, List.map_nil, hsv, hxv, hr]
  refine hK _ _ (h v' w2 ?_ ((hb.alloc (by omega) _).grown hgr (by simp; omega) (fun q hq => (hO.lt q hq).1)) hgr)
  unfold OwnQ RqC
  rw [List.length_append, List.flatMap_append]
  simpa [RqC] using hown
end
section
variable {B : Nat} {w0 ws : World} {L : List (Nat × Array Value × TypeId)} {full : List Oper} {a0 : Act} {K : Act → World → Prop} {n : Nat} {l : List Oper} {o : Oper} {Γ : Env}
theorem g_ixq {x y : Operand} {b f len c i : Nat} (ho : o.op = .indexAddr 47 x y) (hx : Has ws a0 Γ x (Is (.slice (some ⟨b, f, none⟩) len c))) (hy : Has ws a0 Γ y (Is (.int .i64 (i : Int)))) (hi : i < len)
    (h : softG Tryz.prog B w0 ws L full a0 K n l ((o.dst, Is (.pointer (some ⟨b, f + i * 4, none⟩))) :: Γ)) (hlv : Live full ws a0 Γ o := by first | exact ⟨rfl, Or.inl rfl⟩ | exact live_of rfl rfl rfl (fun _ _ _ h => h)) : softG Tryz.prog B w0 ws L full a0 K (n + 1) (o :: l) Γ :=
  g_two (x := x) (y := y) (by rw [ho]; exact Array.mem_def.2 (List.Mem.head _)) (by rw [ho]; exact Array.mem_def.2 (List.Mem.tail _ (List.Mem.head _))) hx hy (fun w e h1 h2 => by
    have hr : (Instr.indexAt 47 (.slice (some ⟨b, f, none⟩) len c) (.int .i64 (i : Int))).run Tryz.prog w = .ok (.pointer (some ⟨b, f + i * 4, none⟩)) w := by
      rw [run_indexAt_slice (h := by kernel_rfl), if_pos ⟨by omega, by omega⟩]
      have hs : (sizeOf (Tryz.prog.elem 47)).run Tryz.prog w = .ok 4 w := by kernel_rfl
      rw [hs]
      show Result.ok (Value.pointer (some ((⟨b, f, none⟩ : Addr).add ((i : Int).toNat * 4)))) w = _
      rw [Int.toNat_natCast, Addr.add_lit]
    unfold execOp
    simp only [ho, h1, h2]
    rw [Sem.run_bind, hr]
    rfl) h hlv
/-- A request out of a slice. -/
theorem g_ldq {x : Operand} {g k : Nat} {vs : List Value} (ho : o.op = .load 24 x) (hx : Has ws a0 Γ x (Is (.pointer (some ⟨g, k, none⟩)))) (hn : vs.length = 4) (hc : ∀ w, Below ws.heap.size ws w → ∀ j u, vs[j]? = some u → w.cell? ⟨g, k + j, none⟩ = some u)
    (h : softG Tryz.prog B w0 ws L full a0 K n l ((o.dst, Is (.agg vs.toArray)) :: Γ)) (hlv : Live full ws a0 Γ o := by first | exact ⟨rfl, Or.inl rfl⟩ | exact live_of rfl rfl rfl (fun _ _ _ h => h)) : softG Tryz.prog B w0 ws L full a0 K (n + 1) (o :: l) Γ :=
  g_val (x := x) (A := Is (.pointer (some ⟨g, k, none⟩))) (stb_is _) (by rw [ho]; exact Array.mem_singleton_self x) hx (fun w e hw hb he => by
    have hl : (loadCells ⟨g, k, none⟩ vs.length).run Tryz.prog w = .ok vs.toArray w :=
      run_loadCells_list (P := Tryz.prog) w ⟨g, k, none⟩ vs (fun j u hj => by rw [addr_add]; exact hc w hb j u hj)
    have hagg : (isAgg 24).run Tryz.prog w = .ok true w := by kernel_rfl
    rw [hn] at hl
    have h1 : (Instr.loadAt 24 (.pointer (some ⟨g, k, none⟩))).run Tryz.prog w = .ok (.agg vs.toArray) w := by
      simp [Instr.loadAt, Instr.sureAddr, loadVar, Sem.run_bind, hagg, hl]
    refine ⟨.agg vs.toArray, ?_, rfl⟩
    have he : e x = .pointer (some ⟨g, k, none⟩) := he
    unfold execOp
    simp only [ho, he]
    rw [Sem.run_bind, h1]
    rfl) h hlv
end
/-- A request's text. -/
def txtQ (x : QV) : Bs := headS x.1 ++ x.1.b
def txtsQ (l : List QV) : Bs := (l.map txtQ).flatten
theorem txtsQ_snoc (l : List QV) (x : QV) : txtsQ (l ++ [x]) = txtsQ l ++ txtQ x := by unfold txtsQ; rw [List.map_append, List.flatten_append]; simp
theorem txtsQ_cons {l : List QV} {j : Nat} {x : QV} (h : l[j]? = some x) : txtsQ (l.drop j) = txtQ x ++ txtsQ (l.drop (j + 1)) := by
  obtain ⟨hi, e⟩ := List.getElem?_eq_some_iff.1 h
  rw [List.drop_eq_getElem_cons hi, e]; rfl
end Go.Proofs.YtipjkjcmceeaeaaGreatDoor
