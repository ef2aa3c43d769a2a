/- ZRow ZOwn ZTree, in one text. -/
import Derived.Test.YtebhiplcoioenaaGreatDoorZYRws
import Derived.Test.YtebhiplcoioenaaGreatDoorZZDefs
import Derived.Lib.ConvBytes
import Derived.Lib.SmallJoins
import Derived.Laws.BytesArg
import Derived.Maps.AppendAt
import Derived.Lib.AppendStr
/- A row of bytes of one's own, as a list of bytes. -/
namespace Go.Proofs.YtebhiplcoioenaaGreatDoor
open Go.RowKit

/-- Block g (of the call's own, from B on) is a row of bytes that begins with l; none of its cells is frozen. -/
def RowM (w : World) (B g cap : Nat) (l : List UInt8) : Prop :=
  ∃ cur fz, B ≤ g ∧ w.heap[g]? = some (.cells cur 5 fz) ∧ (fz.2 = 0 ∨ cur.size ≤ fz.1) ∧ l.length ≤ cap ∧ cap ≤ maxLen ∧ cur.size = cap ∧ ∀ (j : Nat) (x : UInt8), l[j]? = some x → cur[j]? = some (.int .u8 (x.toNat : Nat))
section
variable {w w' : World} {B g cap : Nat} {l : List UInt8}
theorem RowM.lt (h : RowM w B g cap l) : g < w.heap.size := by
  obtain ⟨cur, fz, _, hh, _⟩ := h
  exact (Array.getElem?_eq_some_iff.1 hh).1
theorem RowM.ge (h : RowM w B g cap l) : B ≤ g := by
  obtain ⟨_, _, hg, _⟩ := h
  exact hg
theorem RowM.le (h : RowM w B g cap l) : l.length ≤ cap ∧ cap ≤ 9223372036854775807 := by
  obtain ⟨_, _, _, _, _, h1, h2, _⟩ := h
  exact ⟨h1, h2⟩
theorem RowM.cell (h : RowM w B g cap l) {j : Nat} {x : UInt8} (hj : l[j]? = some x) : w.cell? ⟨g, j, none⟩ = some (.int .u8 (x.toNat : Nat)) := by
  obtain ⟨cur, fz, _, hh, _, _, _, _, hc⟩ := h
  rw [cell_of_row w g j cur _ _ hh]; exact hc j x hj
theorem RowM.free (h : RowM w B g cap l) (j : Nat) (hj : j < l.length) : w.frozen? ⟨g, j, none⟩ = false := by
  obtain ⟨cur, ⟨lo, up⟩, _, hh, hf, h1, _, h2, _⟩ := h
  simp only at hf
  simp only [World.frozen?, hh, Bool.and_eq_false_iff, decide_eq_false_iff_not]
  omega
theorem RowM.set (h : RowM w B g cap l) (j : Nat) (x : UInt8) : RowM (w.setCell ⟨g, j, none⟩ (.int .u8 (x.toNat : Nat))) B g cap (l.set j x) := by
  obtain ⟨cur, fz, hg, hh, hf, h1, hm, h2, hc⟩ := h
  refine ⟨cur.setIfInBounds j (.int .u8 (x.toNat : Nat)), fz, hg, ?_, by simpa using hf, by simpa using h1, hm, by simpa using h2, fun i y hi => ?_⟩
  · rw [setCell_eq_setRow w g j cur _ _ _ hh]; exact setRow_heap w g cur _ _ _ hh
  · rw [Array.getElem?_setIfInBounds]
    by_cases e : j = i
    · subst e
      have hlt : j < l.length := by have := (List.getElem?_eq_some_iff.1 hi).1; simpa using this
      rw [if_pos rfl, if_pos (by omega)]
      rw [List.getElem?_set_self hlt] at hi
      rw [Option.some.inj hi]
    · rw [if_neg e]
      rw [List.getElem?_set_ne e] at hi
      exact hc i y hi
theorem RowM.below (h : RowM w B g cap l) (hb : Below w.heap.size w w') : RowM w' B g cap l := by
  obtain ⟨cur, fz, hg, hh, r⟩ := h
  exact ⟨cur, fz, hg, by rw [hb.block g (Array.getElem?_eq_some_iff.1 hh).1]; exact hh, r⟩
theorem RowM.drewN (h : RowM w B g cap l) (q : Nat) : RowM (w.drewN q) B g cap l := h
theorem below_setc {B : Nat} {w0 w : World} (h : Below B w0 w) {g : Nat} (hg : B ≤ g) (j : Nat) (v : Value) : Below B w0 (w.setCell ⟨g, j, none⟩ v) := by
  refine ⟨h.os, h.tape, h.output, ?_, fun k hk => ?_⟩
  · simp only [World.setCell, Array.size_modify]; exact h.size
  · rw [heap_setCell_other _ ⟨g, j, none⟩ k _ (by simp only; omega)]; exact h.block k hk
/-- It as a text. -/
theorem RowM.text (h : RowM w B g cap l) (c : Nat) :
    (convert 68 9 (.slice (some ⟨g, 0, none⟩) l.length c)).run Tryz.prog w = .ok (.string (bs l)) w := by
  have hr := run_convert_bytes_arg (P := Tryz.prog) w 68 5 Tryz.underlying68 Tryz.underlying5 g 0 l.length c (l.map fun x => ((x.toNat : Nat) : Int)) (by simp) (fun i hi => by
      obtain ⟨x, hx⟩ : ∃ x, l[i]? = some x := ⟨l[i], by simp [hi]⟩
      rw [Nat.zero_add, h.cell hx]
      simp [List.getD, hx]) 9 Tryz.underlying9
  rw [hr]
  refine congrArg (fun s => Result.ok (Value.string s) w) ?_
  unfold strOfNums bs
  rw [List.map_map]
  refine congrArg (fun l => ByteArray.mk (List.toArray l)) ?_
  have : ∀ x : UInt8, (fun n : Int => UInt8.ofNat n.toNat) ((x.toNat : Nat) : Int) = x := fun x => by simp
  calc l.map _ = l.map id := List.map_congr_left fun x _ => this x
    _ = l := List.map_id l
end
/-- '[]byte(s)'. -/
theorem conv_row (w : World) (l : List UInt8) (hl : l.length ≤ 140737488355328) : ∃ cap w1, (convert 9 68 (.string (bs l))).run Tryz.prog w = .ok (.slice (some ⟨w.heap.size, 0, none⟩) l.length cap) w1 ∧
    RowM w1 w.heap.size w.heap.size cap l ∧ Below w.heap.size w w1 := by
  have h1 := Lib.run_convert_string_bytes (P := Tryz.prog) w 9 68 5 (bs l) Tryz.underlying9 Tryz.underlying68 Tryz.underlying5
  have hge := grownCap_ge w (bs l).size 0 5
  have hmx : maxLen = 9223372036854775807 := rfl
  have hsz := bs_size l
  have hcm := grownCap_le_maxLen w (bs l).size 0 5 (by omega)
  have hcs : (Lib.bytesCells w 5 (bs l)).size = grownCap w (bs l).size 0 5 := by
    have : (bs l).data.size = (bs l).size := rfl
    simp only [Lib.bytesCells, Array.size_append, Array.size_map, Array.size_replicate, this]
    omega
  rw [hsz] at h1
  refine ⟨_, _, h1, ⟨_, _, Nat.le_refl _, Lib.bytesWorld_at_new w _ (bs l), Or.inr (Nat.le_refl _), by rw [hsz] at hge; exact hge, by rw [hsz] at hcm; exact hcm, by rw [hsz] at hcs; exact hcs, fun j x hj => ?_⟩, Joins.below_bytesWorld _ w _ (bs l) (Nat.le_refl _)⟩
  have hlt := (List.getElem?_eq_some_iff.1 hj).1
  have h2 := Lib.bytesWorld_cell w 5 (bs l) j (by omega)
  rw [cell_of_row _ _ _ _ _ _ (Lib.bytesWorld_at_new w 5 (bs l))] at h2
  rw [h2, bs_data]
  simp [List.getD, hj]
end Go.Proofs.YtebhiplcoioenaaGreatDoor
/- Slices of one's own that grow: bytes, texts, numbers, values. -/
namespace Go.Proofs.YtebhiplcoioenaaGreatDoor
open Go.RowKit

/-- Cells that lie one behind the other. -/
def RowC (w : World) (xs : List Value) (b f : Nat) : Prop := ∀ (j : Nat) u, xs[j]? = some u → w.cell? ⟨b, f + j, none⟩ = some u
theorem RowC.below {w w' : World} {xs : List Value} {b f : Nat} (h : RowC w xs b f) (hb : Below w.heap.size w w') : RowC w' xs b f := fun j u hj => by
  have h1 := h j u hj
  exact (hb.cell (p := ⟨b, f + j, none⟩) (World.block_lt_of_cell? w _ h1)).trans h1
theorem RowC.drop {w : World} {xs : List Value} {b f : Nat} (h : RowC w xs b f) (k : Nat) : RowC w (xs.drop k) b (f + k) := fun j u hj => by
  rw [List.getElem?_drop] at hj
  rw [Nat.add_assoc]
  exact h _ u hj
/-- A slice whose n places hold these cells. -/
def SlC (w : World) (n : Nat) (xs : List Value) (ad : Option Addr) (c : Nat) : Prop := n ≤ c ∧ c ≤ MX ∧ ∃ b f, (ad = some ⟨b, f, none⟩ ∨ (ad = ad ∧ n = 0)) ∧ RowC w xs b f
theorem SlC.grown {w w' : World} {n : Nat} {xs : List Value} {ad : Option Addr} {c : Nat} (h : SlC w n xs ad c) (hb : Below w.heap.size w w') : SlC w' n xs ad c := by
  obtain ⟨h1, h2, b, f, h3, h4⟩ := h
  exact ⟨h1, h2, b, f, h3, h4.below hb⟩
theorem slc_of_own {w : World} {B n size : Nat} {e : TypeId} {v : Value} {xs : List Value} (ho : w.ownsRow B e size v n xs) : ∃ ad c, v = .slice ad n c ∧ SlC w n xs ad c := by
  obtain ⟨hl, ⟨rfl, h0⟩ | ⟨g, cap, cur, rfl, hg, hh, hn, hcm, hcs, htk⟩⟩ := ho
  · subst h0
    refine ⟨none, 0, rfl, Nat.le_refl _, Nat.zero_le _, 0, 0, Or.inr ⟨rfl, rfl⟩, fun j u hj => ?_⟩
    have : xs = [] := List.eq_nil_of_length_eq_zero (by rw [hl]; simp)
    rw [this] at hj; simp at hj
  · refine ⟨some ⟨g, 0, none⟩, cap, rfl, hn, hcm, g, 0, Or.inl rfl, fun j u hj => ?_⟩
    have hj2 := hj
    rw [← htk, List.getElem?_take] at hj2
    split at hj2
    · simp only [World.cell?, hh, Nat.zero_add]
      simpa using hj2
    · cases hj2
theorem own_empty {w : World} {B size : Nat} {e : TypeId} (hB : B ≤ w.heap.size) : (w.alloc (.cells #[] e)).ownsRow B e size (.slice (some ⟨w.heap.size, 0, none⟩) 0 0) 0 [] :=
  ⟨by simp, Or.inr ⟨w.heap.size, 0, #[], rfl, hB, heap_alloc_new _ _, Nat.le_refl _, Nat.zero_le _, by simp, by simp⟩⟩
theorem own_keep {w w' : World} {B n size : Nat} {e : TypeId} {v : Value} {xs : List Value} (ho : w.ownsRow B e size v n xs) (hb : Below w.heap.size w w') : w'.ownsRow B e size v n xs := by
  obtain ⟨hl, h | ⟨g, cap, cur, rfl, hg, hh, r⟩⟩ := ho
  · exact ⟨hl, Or.inl h⟩
  · exact ⟨hl, Or.inr ⟨g, cap, cur, rfl, hg, (hb.block g (Array.getElem?_eq_some_iff.1 hh).1).trans hh, r⟩⟩
/-- One more behind one's own, as a step. -/
theorem wp_snoc {P : Program} {w w1 : World} {B : Nat} {ops : Array Oper} {rest : List Oper} {o : Oper} {a : Act} {Q : Exit → Act → World → Prop} (hgd : o.guard = none) (s x : Operand) (t e : TypeId) (ho : o.op = .call { callee := .builtin .append, args := #[s, x], argTypes := #[t, t] })
    {i0 : TypeInfo} {z : Value} {size bytes : Nat} (ht : P.underlying t = some (.slice e)) (hi : P.info? e = some i0) (hz0 : i0.zero = some z) (hz1 : i0.size = size) (hz2 : i0.bytes = bytes) (hzs : z.cells.size = size) (hsz : 0 < size)
    {v : Value} {n : Nat} {xs : List Value} (news : List Value) (cells : Array Value) (hcl : cells.toList = news) (hsv : a.eval s = v) (hxv : a.eval x = .slice (some ⟨w1.heap.size, 0, none⟩) 1 1) (hO : w1.ownsRow B e size v n xs) (hB : B ≤ w.heap.size) (hb : Below B w w1) (hl : news.length = size) (h1 : ∀ u ∈ news, u.oneCell' = true)
    (hk : n + 1 ≤ 3000000) (hbt : bytes ≤ 64)
    (h : ∀ v' w2, w2.ownsRow B e size v' (n + 1) (xs ++ news) → Below B w w2 → wpList P ops Q rest (a.put o.dst v') w2) : wpList P ops Q (o :: rest) a (w1.alloc (.cells cells e)) := by
  have hnew := heap_alloc_new w1 (.cells cells e)
  have hbs := hb.size
  have hnb : (n + 1) * bytes ≤ 140737488355328 := Nat.le_trans (Nat.mul_le_mul hk hbt) (by decide)
  obtain ⟨v', w2, hr, hown, hgr, _, hat⟩ := run_append_own_at (P := P) (w1.alloc (.cells cells e)) B t o.type e i0 z size bytes ht hi hz0 hz1 hz2 hzs hsz v n xs (hO.alloc _) ⟨w1.heap.size, 0, none⟩ 1 1 news (by omega) (fun k u hj => by
      rw [Addr.add_lit, Nat.zero_add]
      simp only [World.cell?, hnew]
      rw [if_neg (by simp)]
      rw [← hcl] at hj
      simpa using hj) h1 (by unfold maxLen; omega) hnb (by simp; omega)
  refine wpList_plain hgd fun K hK => ?_
  unfold Oper.wp
  simp only [execOp, ho, resolve, invoke, builtin, Sem.run_bind, Sem.run_pure, Result.andThen_ok, List.map_toArray, List.map_cons, List.map_nil, hsv, hxv, hr]
  exact hK _ _ (h v' w2 hown ((hb.alloc (by omega) _).grown hgr (by simp; omega) (fun q hq => (hO.lt q hq).1)))
/-- A text's bytes behind one's own, as a step. -/
theorem wp_snocT {P : Program} {w w1 : World} {B : Nat} {ops : Array Oper} {rest : List Oper} {o : Oper} {a : Act} {Q : Exit → Act → World → Prop} (hgd : o.guard = none) (s x : Operand) (t u e : TypeId) (ho : o.op = .call { callee := .builtin .append, args := #[s, x], argTypes := #[t, u] })
    {i0 : TypeInfo} (ht : P.underlying t = some (.slice e)) (hu : P.underlying u = some .string) (hi : P.info? e = some i0) (hz0 : i0.zero = some (.int .u8 0)) (hz1 : i0.size = 1) (hz2 : i0.bytes = 1)
    {v : Value} {n : Nat} {xs : List Value} (l : List UInt8) (hsv : a.eval s = v) (hxv : a.eval x = .string (bs l)) (hO : w1.ownsRow B e 1 v n xs) (hB : B ≤ w.heap.size) (hb : Below B w w1)
    (hk : n + l.length ≤ 140737488355328)
    (h : ∀ v' w2, w2.ownsRow B e 1 v' (n + l.length) (xs ++ l.map fun x => Value.int .u8 (x.toNat : Nat)) → Below B w w2 → wpList P ops Q rest (a.put o.dst v') w2) : wpList P ops Q (o :: rest) a w1 := by
  have hbs := hb.size
  have hsz := bs_size l
  refine Lib.wpList_append_own_string (w := w1) (P := P) hgd s x t u ho B e i0 ht hu hi hz0 hz1 hz2 v n xs hsv hO (bs l) hxv (by unfold maxLen; omega) (by omega) (by omega) (fun v' w' hown hgr _ => ?_)
  rw [hsz] at hown
  unfold Lib.strCells at hown
  rw [bs_data] at hown
  exact h v' w' hown (hb.grown hgr (by omega) (fun q hq => (hO.lt q hq).1))
def ByC (l : List UInt8) : List Value := l.map fun x => .int .u8 (x.toNat : Nat)
def StC (l : List Bs) : List Value := l.map fun s => .string (bs s)
def InC (l : List Nat) : List Value := l.map fun n => .int .i64 (n : Nat)
@[reducible] def OwnB (B : Nat) (w : World) (v : Value) (l : List UInt8) : Prop := w.ownsRow B 5 1 v l.length (ByC l)
@[reducible] def OwnS (B : Nat) (w : World) (v : Value) (l : List Bs) : Prop := w.ownsRow B 9 1 v l.length (StC l)
@[reducible] def OwnI (B : Nat) (w : World) (v : Value) (l : List Nat) : Prop := w.ownsRow B 3 1 v l.length (InC l)
theorem info_u8 : (Tryz.prog.info? 5).map (fun i => (i.zero, i.size, i.bytes)) = some (some (.int .u8 0), 1, 1) := by kernel_rfl
theorem info_str : (Tryz.prog.info? 9).map (fun i => (i.zero, i.size, i.bytes)) = some (some (.string ByteArray.empty), 1, 16) := by kernel_rfl
theorem info_int : (Tryz.prog.info? 3).map (fun i => (i.zero, i.size, i.bytes)) = some (some (.int .i64 0), 1, 8) := by kernel_rfl
theorem info_der : (Tryz.prog.info? 24).map (fun i => (i.zero, i.size, i.bytes)) = some (some (.agg #[.int .i64 0, .int .i64 0, .bool false, .string ByteArray.empty, .slice none 0 0]), 5, 64) := by kernel_rfl
section
variable {w w1 : World} {B : Nat} {ops : Array Oper} {rest : List Oper} {o : Oper} {a : Act} {Q : Exit → Act → World → Prop} {v : Value}
theorem wp_snocB (hgd : o.guard = none) (s x : Operand) (ho : o.op = .call { callee := .builtin .append, args := #[s, x], argTypes := #[68, 68] })
    {l : List UInt8} (c : UInt8) (hsv : a.eval s = v) (hxv : a.eval x = .slice (some ⟨w1.heap.size, 0, none⟩) 1 1) (hO : OwnB B w1 v l) (hB : B ≤ w.heap.size) (hb : Below B w w1) (hk : l.length + 1 ≤ 3000000)
    (h : ∀ v' w2, OwnB B w2 v' (l ++ [c]) → Below B w w2 → wpList Tryz.prog ops Q rest (a.put o.dst v') w2) : wpList Tryz.prog ops Q (o :: rest) a (w1.alloc (.cells #[.int .u8 (c.toNat : Nat)] 5)) := by
  obtain ⟨i0, hi, hz0, hz1, hz2⟩ := info_parts info_u8
  refine wp_snoc hgd s x 68 5 ho Tryz.underlying68 hi hz0 hz1 hz2 rfl (by decide) [.int .u8 (c.toNat : Nat)] _ rfl hsv hxv hO hB hb rfl (by simp; rfl) hk (by decide) (fun v' w2 ho2 hb2 => h v' w2 ?_ hb2)
  unfold OwnB ByC
  rw [List.length_append, List.map_append]; exact ho2
theorem wp_snocS (hgd : o.guard = none) (s x : Operand) (ho : o.op = .call { callee := .builtin .append, args := #[s, x], argTypes := #[65, 65] })
    {l : List Bs} (c : Bs) (hsv : a.eval s = v) (hxv : a.eval x = .slice (some ⟨w1.heap.size, 0, none⟩) 1 1) (hO : OwnS B w1 v l) (hB : B ≤ w.heap.size) (hb : Below B w w1) (hk : l.length + 1 ≤ 3000000)
    (h : ∀ v' w2, OwnS B w2 v' (l ++ [c]) → Below B w w2 → wpList Tryz.prog ops Q rest (a.put o.dst v') w2) : wpList Tryz.prog ops Q (o :: rest) a (w1.alloc (.cells #[.string (bs c)] 9)) := by
  obtain ⟨i0, hi, hz0, hz1, hz2⟩ := info_parts info_str
  refine wp_snoc hgd s x 65 9 ho Tryz.underlying65 hi hz0 hz1 hz2 rfl (by decide) [.string (bs c)] _ rfl hsv hxv hO hB hb rfl (by simp; rfl) hk (by decide) (fun v' w2 ho2 hb2 => h v' w2 ?_ hb2)
  unfold OwnS StC
  rw [List.length_append, List.map_append]; exact ho2
theorem wp_snocI (hgd : o.guard = none) (s x : Operand) (ho : o.op = .call { callee := .builtin .append, args := #[s, x], argTypes := #[61, 61] })
    {l : List Nat} (c : Nat) (hsv : a.eval s = v) (hxv : a.eval x = .slice (some ⟨w1.heap.size, 0, none⟩) 1 1) (hO : OwnI B w1 v l) (hB : B ≤ w.heap.size) (hb : Below B w w1) (hk : l.length + 1 ≤ 3000000)
    (h : ∀ v' w2, OwnI B w2 v' (l ++ [c]) → Below B w w2 → wpList Tryz.prog ops Q rest (a.put o.dst v') w2) : wpList Tryz.prog ops Q (o :: rest) a (w1.alloc (.cells #[.int .i64 (c : Nat)] 3)) := by
  obtain ⟨i0, hi, hz0, hz1, hz2⟩ := info_parts info_int
  refine wp_snoc hgd s x 61 3 ho Tryz.underlying61 hi hz0 hz1 hz2 rfl (by decide) [.int .i64 (c : Nat)] _ rfl hsv hxv hO hB hb rfl (by simp; rfl) hk (by decide) (fun v' w2 ho2 hb2 => h v' w2 ?_ hb2)
  unfold OwnI InC
  rw [List.length_append, List.map_append]; exact ho2
theorem wp_addB (hgd : o.guard = none) (s x : Operand) (ho : o.op = .call { callee := .builtin .append, args := #[s, x], argTypes := #[68, 9] })
    {l : List UInt8} (c : List UInt8) (hsv : a.eval s = v) (hxv : a.eval x = .string (bs c)) (hO : OwnB B w1 v l) (hB : B ≤ w.heap.size) (hb : Below B w w1) (hk : l.length + c.length ≤ 140737488355328)
    (h : ∀ v' w2, OwnB B w2 v' (l ++ c) → Below B w w2 → wpList Tryz.prog ops Q rest (a.put o.dst v') w2) : wpList Tryz.prog ops Q (o :: rest) a w1 := by
  obtain ⟨i0, hi, hz0, hz1, hz2⟩ := info_parts info_u8
  refine wp_snocT hgd s x 68 9 5 ho Tryz.underlying68 Tryz.underlying9 hi hz0 hz1 hz2 c hsv hxv hO hB hb hk (fun v' w2 ho2 hb2 => h v' w2 ?_ hb2)
  unfold OwnB ByC
  rw [List.length_append, List.map_append]; exact ho2
end
theorem conv_none (w : World) : (convert 68 9 (.slice none 0 0)).run Tryz.prog w = .ok (.string ⟨#[]⟩) w := by kernel_rfl
theorem own_text {B : Nat} {w : World} {v : Value} {l : List UInt8} (h : OwnB B w v l) : (convert 68 9 v).run Tryz.prog w = .ok (.string (bs l)) w := by
  have ho := h
  obtain ⟨hl, ⟨rfl, h0⟩ | ⟨g, cap, cur, rfl, hg, hh, hn, hcm, hcs, htk⟩⟩ := h
  · have : l = [] := List.eq_nil_of_length_eq_zero h0
    subst this
    exact conv_none w
  · have hc := World.ownsRow.cells ho (g := g) rfl
    have hr := run_convert_bytes_arg (P := Tryz.prog) w 68 5 Tryz.underlying68 Tryz.underlying5 g 0 l.length cap (l.map fun x => ((x.toNat : Nat) : Int)) (by simp) (fun i hi => by
      obtain ⟨x, hx⟩ : ∃ x, l[i]? = some x := ⟨l[i], by simp [hi]⟩
      have := hc i (.int .u8 (x.toNat : Nat)) (by unfold ByC; rw [List.getElem?_map, hx]; rfl)
      rw [Addr.add_lit] at this
      rw [this]
      simp [List.getD, hx]) 9 Tryz.underlying9
    rw [hr]
    refine congrArg (fun s => Result.ok (Value.string s) w) ?_
    unfold strOfNums bs
    rw [List.map_map]
    refine congrArg (fun l => ByteArray.mk (List.toArray l)) ?_
    have : ∀ x : UInt8, (fun n : Int => UInt8.ofNat n.toNat) ((x.toNat : Nat) : Int) = x := fun x => by simp
    calc l.map _ = l.map id := List.map_congr_left fun x _ => this x
      _ = l := List.map_id l
end Go.Proofs.YtebhiplcoioenaaGreatDoor
/- Values in memory: how a list of values lies there (as pol/XLTree for policies); values in memory of one's own (as pol/XLOwn). -/
namespace Go.Proofs.YtebhiplcoioenaaGreatDoor
open Go.RowKit

/-- The list lies at this place. -/
def Row (w : World) : Dr → Nat → Nat → Prop
  | .nil, _, _ => True
  | .cons c t k s kids nx, b, f =>
    (∃ (ad : Option Addr) (cp b1 f1 : Nat), w.cell? ⟨b, f, none⟩ = some (.int .i64 c) ∧ w.cell? ⟨b, f + 1, none⟩ = some (.int .i64 t) ∧ w.cell? ⟨b, f + 2, none⟩ = some (.bool k)
      ∧ w.cell? ⟨b, f + 3, none⟩ = some (.string (bs s)) ∧ w.cell? ⟨b, f + 4, none⟩ = some (.slice ad kids.len cp) ∧ s.length ≤ SB ∧ kids.len ≤ cp ∧ cp ≤ MX
      ∧ (ad = some ⟨b1, f1, none⟩ ∨ (ad = ad ∧ kids.len = 0)) ∧ Row w kids b1 f1) ∧ Row w nx b (f + 5)
theorem Row.below {w w' : World} {B : Nat} (hb : Below B w w') (hB : w.heap.size ≤ B) : ∀ {F : Dr} {b f : Nat}, Row w F b f → Row w' F b f := by
  intro F
  induction F with
  | nil => exact fun _ => trivial
  | cons c t k s kids nx ih1 ih2 =>
    rintro b f ⟨⟨ad, cp, b1, f1, h0, h1, h2, h3, h4, r2, r3, r4, r5, r6⟩, hn⟩
    have hlt : b < w.heap.size := World.block_lt_of_cell? w _ h0
    have hc : ∀ i, w'.cell? ⟨b, f + i, none⟩ = w.cell? ⟨b, f + i, none⟩ := fun i => hb.cell (p := ⟨b, f + i, none⟩) (Nat.lt_of_lt_of_le hlt hB)
    exact ⟨⟨ad, cp, b1, f1, (hc 0).trans h0, (hc 1).trans h1, (hc 2).trans h2, (hc 3).trans h3, (hc 4).trans h4, r2, r3, r4, r5, ih1 r6⟩, ih2 hn⟩
/-- A slice's value, and its list. -/
structure SlD (w : World) (F : Dr) (ad : Option Addr) (c : Nat) : Prop where
  le : F.len ≤ c
  cm : c ≤ MX
  at_ : ∃ b f, (ad = some ⟨b, f, none⟩ ∨ (ad = ad ∧ F.len = 0)) ∧ Row w F b f
theorem SlD.below {w w' : World} {B : Nat} {F : Dr} {ad : Option Addr} {c : Nat} (h : SlD w F ad c) (hb : Below B w w') (hB : w.heap.size ≤ B) : SlD w' F ad c := by
  obtain ⟨h1, h2, b, f, h3, h4⟩ := h
  exact ⟨h1, h2, b, f, h3, h4.below hb hB⟩
theorem SlD.grown {w w' : World} {F : Dr} {ad : Option Addr} {c : Nat} (h : SlD w F ad c) (hb : Below w.heap.size w w') : SlD w' F ad c := h.below hb (Nat.le_refl _)
theorem SlD.nil (w : World) : SlD w .nil none 0 := ⟨Nat.le_refl _, Nat.zero_le _, 0, 0, Or.inr ⟨rfl, rfl⟩, trivial⟩
theorem Row.kids {w : World} {c t : Int} {k : Bool} {s : Bs} {kids nx : Dr} {b f : Nat} (h : Row w (.cons c t k s kids nx) b f) :
    ∃ ad cp, w.cell? ⟨b, f, none⟩ = some (.int .i64 c) ∧ w.cell? ⟨b, f + 1, none⟩ = some (.int .i64 t) ∧ w.cell? ⟨b, f + 2, none⟩ = some (.bool k)
      ∧ w.cell? ⟨b, f + 3, none⟩ = some (.string (bs s)) ∧ w.cell? ⟨b, f + 4, none⟩ = some (.slice ad kids.len cp) ∧ s.length ≤ SB ∧ SlD w kids ad cp ∧ Row w nx b (f + 5) := by
  obtain ⟨⟨ad, cp, b1, f1, h0, h1, h2, h3, h4, r2, r3, r4, r5, r6⟩, hn⟩ := h
  exact ⟨ad, cp, h0, h1, h2, h3, h4, r2, ⟨r3, r4, b1, f1, r5, r6⟩, hn⟩
/-- A value's cells, and the value. -/
@[reducible] def dvC (v : Dv) (ad : Option Addr) (cp : Nat) : Array Value := #[.int .i64 v.c, .int .i64 v.t, .bool v.k, .string (bs v.b), .slice ad v.l.len cp]
@[reducible] def dvv (v : Dv) (ad : Option Addr) (cp : Nat) : Value := .agg (dvC v ad cp)
def dcl (v : Dv) (ad : Option Addr) (cp : Nat) : List Value := [.int .i64 v.c, .int .i64 v.t, .bool v.k, .string (bs v.b), .slice ad v.l.len cp]

/-- As Row; and each block that it lies in is a Q. -/
def RowQ (Q : Nat → Prop) (w : World) : Dr → Nat → Nat → Prop
  | .nil, _, _ => True
  | .cons c t k s kids nx, b, f =>
    (Q b ∧ ∃ (ad : Option Addr) (cp b1 f1 : Nat), w.cell? ⟨b, f, none⟩ = some (.int .i64 c) ∧ w.cell? ⟨b, f + 1, none⟩ = some (.int .i64 t) ∧ w.cell? ⟨b, f + 2, none⟩ = some (.bool k)
      ∧ w.cell? ⟨b, f + 3, none⟩ = some (.string (bs s)) ∧ w.cell? ⟨b, f + 4, none⟩ = some (.slice ad kids.len cp) ∧ s.length ≤ SB ∧ kids.len ≤ cp ∧ cp ≤ MX
      ∧ (ad = some ⟨b1, f1, none⟩ ∨ (ad = ad ∧ kids.len = 0)) ∧ RowQ Q w kids b1 f1) ∧ RowQ Q w nx b (f + 5)
theorem RowQ.row {Q : Nat → Prop} {w : World} : ∀ {F : Dr} {b f : Nat}, RowQ Q w F b f → Row w F b f := by
  intro F
  induction F with
  | nil => exact fun _ => trivial
  | cons c t k s kids nx ih1 ih2 =>
    rintro b f ⟨⟨_, ad, cp, b1, f1, h0, h1, h2, h3, h4, r2, r3, r4, r5, r6⟩, hn⟩
    exact ⟨⟨ad, cp, b1, f1, h0, h1, h2, h3, h4, r2, r3, r4, r5, ih1 r6⟩, ih2 hn⟩
/-- It goes over into each world that holds the same in those blocks, and says of them what else is known. -/
theorem RowQ.same {Q Q' : Nat → Prop} {w w' : World} (hq : ∀ k, Q k → k < w.heap.size → Q' k) (hs : ∀ k, Q k → k < w.heap.size → w'.heap[k]? = w.heap[k]?) : ∀ {F : Dr} {b f : Nat}, RowQ Q w F b f → RowQ Q' w' F b f := by
  intro F
  induction F with
  | nil => exact fun _ => trivial
  | cons c t k s kids nx ih1 ih2 =>
    rintro b f ⟨⟨hQ, ad, cp, b1, f1, h0, h1, h2, h3, h4, r2, r3, r4, r5, r6⟩, hn⟩
    have hlt : b < w.heap.size := World.block_lt_of_cell? w _ h0
    have hc : ∀ i, w'.cell? ⟨b, f + i, none⟩ = w.cell? ⟨b, f + i, none⟩ := fun i => World.cell?_of_block (w := w) (w' := w') (hs b hQ hlt)
    exact ⟨⟨hq b hQ hlt, ad, cp, b1, f1, (hc 0).trans h0, (hc 1).trans h1, (hc 2).trans h2, (hc 3).trans h3, (hc 4).trans h4, r2, r3, r4, r5, ih1 r6⟩, ih2 hn⟩
structure SlQ (Q : Nat → Prop) (w : World) (F : Dr) (ad : Option Addr) (c : Nat) : Prop where
  le : F.len ≤ c
  cm : c ≤ MX
  at_ : ∃ b f, (ad = some ⟨b, f, none⟩ ∨ (ad = ad ∧ F.len = 0)) ∧ RowQ Q w F b f
theorem SlQ.sld {Q : Nat → Prop} {w : World} {F : Dr} {ad : Option Addr} {c : Nat} (h : SlQ Q w F ad c) : SlD w F ad c := by
  obtain ⟨h1, h2, b, f, h3, h4⟩ := h
  exact ⟨h1, h2, b, f, h3, h4.row⟩
theorem SlQ.same {Q Q' : Nat → Prop} {w w' : World} {F : Dr} {ad : Option Addr} {c : Nat} (h : SlQ Q w F ad c) (hq : ∀ k, Q k → k < w.heap.size → Q' k) (hs : ∀ k, Q k → k < w.heap.size → w'.heap[k]? = w.heap[k]?) : SlQ Q' w' F ad c := by
  obtain ⟨h1, h2, b, f, h3, h4⟩ := h
  exact ⟨h1, h2, b, f, h3, h4.same hq hs⟩
theorem SlQ.nil (Q : Nat → Prop) (w : World) : SlQ Q w .nil none 0 := ⟨Nat.le_refl _, Nat.zero_le _, 0, 0, Or.inr ⟨rfl, rfl⟩, trivial⟩
theorem SlQ.below {Q : Nat → Prop} {w w' : World} {F : Dr} {ad : Option Addr} {c : Nat} (h : SlQ Q w F ad c) (hb : Below w.heap.size w w') : SlQ Q w' F ad c := h.same (fun _ h _ => h) (fun k _ hk => hb.block k hk)
/-- The slice is one's own: its row may be written. -/
def OwnD (B : Nat) (w : World) (n : Nat) (ad : Option Addr) (c : Nat) : Prop := ∃ ks, w.ownsRow B 24 5 (.slice ad n c) n ks
theorem OwnD.nil (B : Nat) (w : World) : OwnD B w 0 none 0 := ⟨[], World.ownsRow_nil _ _ _ _⟩
def Dr.snoc : Dr → Dv → Dr
  | .nil, v => .cons v.c v.t v.k v.b v.l .nil
  | .cons c t k s kids nx, v => .cons c t k s kids (nx.snoc v)
theorem Dr.snoc_len (F : Dr) (v : Dv) : (F.snoc v).len = F.len + 1 := by
  induction F with
  | nil => rfl
  | cons c t k s kids nx _ ih => simp only [Dr.snoc, Dr.len]; omega
theorem Dr.snoc_app (F : Dr) (v : Dv) (G : Dr) : (F.snoc v).app G = F.app (.cons v.c v.t v.k v.b v.l G) := by
  induction F with
  | nil => rfl
  | cons c t k s kids nx _ ih => simp only [Dr.snoc, Dr.app, ih]
/-- The cells of a list of values, one value behind the other. -/
def Chk (Q : Nat → Prop) (w : World) : Dr → List Value → Prop
  | .nil, xs => xs = []
  | .cons c t k s kids nx, xs => ∃ (ad : Option Addr) (cp : Nat) (ys : List Value), xs = dcl ⟨c, t, k, s, kids⟩ ad cp ++ ys ∧ s.length ≤ SB ∧ SlQ Q w kids ad cp ∧ Chk Q w nx ys
theorem Chk.same {Q Q' : Nat → Prop} {w w' : World} (hq : ∀ k, Q k → k < w.heap.size → Q' k) (hs : ∀ k, Q k → k < w.heap.size → w'.heap[k]? = w.heap[k]?) : ∀ {F : Dr} {xs : List Value}, Chk Q w F xs → Chk Q' w' F xs := by
  intro F
  induction F with
  | nil => exact fun h => h
  | cons c t k s kids nx _ ih =>
    rintro xs ⟨ad, cp, ys, h1, h3, h4, h5⟩
    exact ⟨ad, cp, ys, h1, h3, h4.same hq hs, ih h5⟩
theorem Chk.snoc {Q : Nat → Prop} {w : World} {v : Dv} {ad : Option Addr} {cp : Nat} (ht : v.b.length ≤ SB) (hk : SlQ Q w v.l ad cp) : ∀ {F : Dr} {xs : List Value}, Chk Q w F xs → Chk Q w (F.snoc v) (xs ++ dcl v ad cp) := by
  intro F
  induction F with
  | nil => intro xs h; obtain rfl : xs = [] := h; exact ⟨ad, cp, [], by simp, ht, hk, rfl⟩
  | cons c t k s kids nx _ ih =>
    rintro xs ⟨a1, c1, ys, rfl, h3, h4, h5⟩
    exact ⟨a1, c1, ys ++ dcl v ad cp, by simp [dcl], h3, h4, ih h5⟩
theorem Chk.len {Q : Nat → Prop} {w : World} : ∀ {F : Dr} {xs : List Value}, Chk Q w F xs → xs.length = F.len * 5 := by
  intro F
  induction F with
  | nil => intro xs h; obtain rfl : xs = [] := h; rfl
  | cons c t k s kids nx _ ih =>
    rintro xs ⟨a1, c1, ys, rfl, h3, h4, h5⟩
    have := ih h5
    simp only [dcl, List.length_append, List.length_cons, List.length_nil, Dr.len]; omega
/-- Such cells in a block make a row. -/
theorem Chk.row {Q : Nat → Prop} {w : World} {g : Nat} (hQ : Q g) : ∀ {F : Dr} {xs : List Value} {f : Nat}, Chk Q w F xs → (∀ j v, xs[j]? = some v → w.cell? ⟨g, f + j, none⟩ = some v) → RowQ Q w F g f := by
  intro F
  induction F with
  | nil => exact fun _ _ => trivial
  | cons c t k s kids nx _ ih =>
    rintro xs f ⟨ad, cp, ys, rfl, h3, ⟨h4, h5, b1, f1, h6, h7⟩, h8⟩ hc
    refine ⟨⟨hQ, ad, cp, b1, f1, hc 0 _ rfl, hc 1 _ rfl, hc 2 _ rfl, hc 3 _ rfl, hc 4 _ rfl, h3, h4, h5, h6, h7⟩, ih h8 fun j v hj => ?_⟩
    have := hc (5 + j) v (by
      rw [List.getElem?_append_right (by simp [dcl])]
      simpa [dcl] using hj)
    rwa [show f + (5 + j) = f + 5 + j by omega] at this
theorem Chk.slq {Q : Nat → Prop} {w : World} {B : Nat} {e : TypeId} {F : Dr} {xs : List Value} {v : Value} (h : Chk Q w F xs) (hown : w.ownsRow B e 5 v F.len xs) (hQ : ∀ g c, v = .slice (some ⟨g, 0, none⟩) F.len c → Q g) : ∃ ad c, v = .slice ad F.len c ∧ SlQ Q w F ad c := by
  obtain ⟨h1, ⟨hv, h0⟩ | ⟨g, cap, cur, hv, hg, hh, hnc, hcm, hcs, ht⟩⟩ := hown
  · have hF : F = .nil := by cases F with | nil => rfl | cons => simp [Dr.len] at h0
    subst hF
    exact ⟨none, 0, hv, SlQ.nil Q w⟩
  · refine ⟨_, _, hv, hnc, hcm, g, 0, Or.inl rfl, h.row (hQ g cap hv) fun j v hj => ?_⟩
    have hjl : j < xs.length := (List.getElem?_eq_some_iff.1 hj).1
    rw [Nat.zero_add]
    simp only [World.cell?, hh]
    rw [← ht, List.getElem?_take] at hj
    split at hj
    · simpa using hj
    · cases hj
end Go.Proofs.YtebhiplcoioenaaGreatDoor
