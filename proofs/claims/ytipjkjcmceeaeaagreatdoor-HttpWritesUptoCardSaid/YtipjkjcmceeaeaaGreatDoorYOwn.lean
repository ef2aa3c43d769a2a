/- Slices of one's own that grow: bytes, texts, fields. -/
import Derived.Test.YtipjkjcmceeaeaaGreatDoorYRow
import Derived.Maps.AppendAt
import Derived.Lib.AppendStr
namespace Go.Proofs.YtipjkjcmceeaeaaGreatDoor
open Go.RowKit

/-- Cells that lie one behind the other. -/
def RowC (w : World) (xs : List Value) (b f : Nat) : Prop := ∀ (j : Nat) u, xs[j]? = some u → w.cell? ⟨b, f + j, none⟩ = some u
theorem RowC.below {w w' : World} {xs : List Value} {b f : Nat} (h : RowC w xs b f) (hb : Below w.heap.size w w') : RowC w' xs b f := fun j u hj => by
  have h1 := h j u hj
  exact (hb.cell (p := ⟨b, f + j, none⟩) (World.block_lt_of_cell? w _ h1)).trans h1
theorem RowC.drop {w : World} {xs : List Value} {b f : Nat} (h : RowC w xs b f) (k : Nat) : RowC w (xs.drop k) b (f + k) := fun j u hj => by
  rw [List.getElem?_drop] at hj
  rw [Nat.add_assoc]
  exact h _ u hj
/-- A slice whose n places hold these cells. -/
def SlC (w : World) (n : Nat) (xs : List Value) (ad : Option Addr) (c : Nat) : Prop := n ≤ c ∧ c ≤ MX ∧ ∃ b f, (ad = some ⟨b, f, none⟩ ∨ (ad = ad ∧ n = 0)) ∧ RowC w xs b f
theorem SlC.grown {w w' : World} {n : Nat} {xs : List Value} {ad : Option Addr} {c : Nat} (h : SlC w n xs ad c) (hb : Below w.heap.size w w') : SlC w' n xs ad c := by
  obtain ⟨h1, h2, b, f, h3, h4⟩ := h
  exact ⟨h1, h2, b, f, h3, h4.below hb⟩
theorem slc_of_own {w : World} {B n size : Nat} {e : TypeId} {v : Value} {xs : List Value} (ho : w.ownsRow B e size v n xs) : ∃ ad c, v = .slice ad n c ∧ SlC w n xs ad c := by
  obtain ⟨hl, ⟨rfl, h0⟩ | ⟨g, cap, cur, rfl, hg, hh, hn, hcm, hcs, htk⟩⟩ := ho
  · subst h0
    refine ⟨none, 0, rfl, Nat.le_refl _, Nat.zero_le _, 0, 0, Or.inr ⟨rfl, rfl⟩, fun j u hj => ?_⟩
    have : xs = [] := List.eq_nil_of_length_eq_zero (by rw [hl]; simp)
    rw [this] at hj; simp at hj
  · refine ⟨some ⟨g, 0, none⟩, cap, rfl, hn, hcm, g, 0, Or.inl rfl, fun j u hj => ?_⟩
    have hj2 := hj
    rw [← htk, List.getElem?_take] at hj2
    split at hj2
    · simp only [World.cell?, hh, Nat.zero_add]
      simpa using hj2
    · cases hj2
theorem own_empty {w : World} {B size : Nat} {e : TypeId} (hB : B ≤ w.heap.size) : (w.alloc (.cells #[] e)).ownsRow B e size (.slice (some ⟨w.heap.size, 0, none⟩) 0 0) 0 [] :=
  ⟨by simp, Or.inr ⟨w.heap.size, 0, #[], rfl, hB, heap_alloc_new _ _, Nat.le_refl _, Nat.zero_le _, by simp, by simp⟩⟩
theorem own_keep {w w' : World} {B n size : Nat} {e : TypeId} {v : Value} {xs : List Value} (ho : w.ownsRow B e size v n xs) (hb : Below w.heap.size w w') : w'.ownsRow B e size v n xs := by
  obtain ⟨hl, h | ⟨g, cap, cur, rfl, hg, hh, r⟩⟩ := ho
  · exact ⟨hl, Or.inl h⟩
  · exact ⟨hl, Or.inr ⟨g, cap, cur, rfl, hg, (hb.block g (Array.getElem?_eq_some_iff.1 hh).1).trans hh, r⟩⟩
/-- One more behind one's own, as a step. -/
theorem wp_snoc {P : Program} {w w1 : World} {B : Nat} {ops : Array Oper} {rest : List Oper} {o : Oper} {a : Act} {Q : Exit → Act → World → Prop} (hgd : o.guard = none) (s x : Operand) (t e : TypeId) (ho : o.op = .call { callee := .builtin .append, args := #[s, x], argTypes := #[t, t] })
    {i0 : TypeInfo} {z : Value} {size bytes : Nat} (ht : P.underlying t = some (.slice e)) (hi : P.info? e = some i0) (hz0 : i0.zero = some z) (hz1 : i0.size = size) (hz2 : i0.bytes = bytes) (hzs : z.cells.size = size) (hsz : 0 < size)
    {v : Value} {n : Nat} {xs : List Value} (news : List Value) (cells : Array Value) (hcl : cells.toList = news) (hsv : a.eval s = v) (hxv : a.eval x = .slice (some ⟨w1.heap.size, 0, none⟩) 1 1) (hO : w1.ownsRow B e size v n xs) (hB : B ≤ w.heap.size) (hb : Below B w w1) (hl : news.length = size) (h1 : ∀ u ∈ news, u.oneCell' = true)
    (hk : n + 1 ≤ 3000000) (hbt : bytes ≤ 64)
    (h : ∀ v' w2, w2.ownsRow B e size v' (n + 1) (xs ++ news) → Below B w w2 → wpList P ops Q rest (a.put o.dst v') w2) : wpList P ops Q (o :: rest) a (w1.alloc (.cells cells e)) := by
  have hnew := heap_alloc_new w1 (.cells cells e)
  have hbs := hb.size
  have hnb : (n + 1) * bytes ≤ 140737488355328 := Nat.le_trans (Nat.mul_le_mul hk hbt) (by decide)
  obtain ⟨v', w2, hr, hown, hgr, _, hat⟩ := run_append_own_at (P := P) (w1.alloc (.cells cells e)) B t o.type e i0 z size bytes ht hi hz0 hz1 hz2 hzs hsz v n xs (hO.alloc _) ⟨w1.heap.size, 0, none⟩ 1 1 news (by omega) (fun k u hj => by
      rw [Addr.add_lit, Nat.zero_add]
      simp only [World.cell?, hnew]
      rw [if_neg (by simp)]
      rw [← hcl] at hj
      simpa using hj) h1 (by unfold maxLen; omega) hnb (by simp; omega)
  refine wpList_plain hgd fun K hK => ?_
  unfold Oper.wp
  simp only [execOp, ho, resolve, invoke, builtin, Sem.run_bind, Sem.run_pure, Result.andThen_ok, List.map_toArray, List.map_cons, List.map_nil, hsv, hxv, hr]
  exact hK _ _ (h v' w2 hown ((hb.alloc (by omega) _).grown hgr (by simp; omega) (fun q hq => (hO.lt q hq).1)))
/-- A text's bytes behind one's own, as a step. -/
theorem wp_snocT {P : Program} {w w1 : World} {B : Nat} {ops : Array Oper} {rest : List Oper} {o : Oper} {a : Act} {Q : Exit → Act → World → Prop} (hgd : o.guard = none) (s x : Operand) (t u e : TypeId) (ho : o.op = .call { callee := .builtin .append, args := #[s, x], argTypes := #[t, u] })
    {i0 : TypeInfo} (ht : P.underlying t = some (.slice e)) (hu : P.underlying u = some .string) (hi : P.info? e = some i0) (hz0 : i0.zero = some (.int .u8 0)) (hz1 : i0.size = 1) (hz2 : i0.bytes = 1)
    {v : Value} {n : Nat} {xs : List Value} (l : List UInt8) (hsv : a.eval s = v) (hxv : a.eval x = .string (bs l)) (hO : w1.ownsRow B e 1 v n xs) (hB : B ≤ w.heap.size) (hb : Below B w w1)
    (hk : n + l.length ≤ 140737488355328)
    (h : ∀ v' w2, w2.ownsRow B e 1 v' (n + l.length) (xs ++ l.map fun x => Value.int .u8 (x.toNat : Nat)) → Below B w w2 → wpList P ops Q rest (a.put o.dst v') w2) : wpList P ops Q (o :: rest) a w1 := by
  have hbs := hb.size
  have hsz := bs_size l
  refine Lib.wpList_append_own_string (w := w1) (P := P) hgd s x t u ho B e i0 ht hu hi hz0 hz1 hz2 v n xs hsv hO (bs l) hxv (by unfold maxLen; omega) (by omega) (by omega) (fun v' w' hown hgr _ => ?_)
  rw [hsz] at hown
  unfold Lib.strCells at hown
  rw [bs_data] at hown
  exact h v' w' hown (hb.grown hgr (by omega) (fun q hq => (hO.lt q hq).1))
def ByC (l : List UInt8) : List Value := l.map fun x => .int .u8 (x.toNat : Nat)
def StC (l : List Bs) : List Value := l.map fun s => .string (bs s)
def HdC (l : List Hd) : List Value := l.flatMap fun h => [.string (bs h.1), .string (bs h.2)]
@[reducible] def OwnB (B : Nat) (w : World) (v : Value) (l : List UInt8) : Prop := w.ownsRow B 5 1 v l.length (ByC l)
@[reducible] def OwnS (B : Nat) (w : World) (v : Value) (l : List Bs) : Prop := w.ownsRow B 9 1 v l.length (StC l)
@[reducible] def OwnH (B : Nat) (w : World) (v : Value) (l : List Hd) : Prop := w.ownsRow B 52 2 v l.length (HdC l)
theorem info_u8 : (Tryz.prog.info? 5).map (fun i => (i.zero, i.size, i.bytes)) = some (some (.int .u8 0), 1, 1) := by kernel_rfl
theorem info_str : (Tryz.prog.info? 9).map (fun i => (i.zero, i.size, i.bytes)) = some (some (.string ByteArray.empty), 1, 16) := by kernel_rfl
theorem info_hd : (Tryz.prog.info? 52).map (fun i => (i.zero, i.size, i.bytes)) = some (some (.agg #[.string ByteArray.empty, .string ByteArray.empty]), 2, 32) := by kernel_rfl
section
variable {w w1 : World} {B : Nat} {ops : Array Oper} {rest : List Oper} {o : Oper} {a : Act} {Q : Exit → Act → World → Prop} {v : Value}
theorem wp_snocB (hgd : o.guard = none) (s x : Operand) (ho : o.op = .call { callee := .builtin .append, args := #[s, x], argTypes := #[44, 44] })
    {l : List UInt8} (c : UInt8) (hsv : a.eval s = v) (hxv : a.eval x = .slice (some ⟨w1.heap.size, 0, none⟩) 1 1) (hO : OwnB B w1 v l) (hB : B ≤ w.heap.size) (hb : Below B w w1) (hk : l.length + 1 ≤ 3000000)
    (h : ∀ v' w2, OwnB B w2 v' (l ++ [c]) → Below B w w2 → wpList Tryz.prog ops Q rest (a.put o.dst v') w2) : wpList Tryz.prog ops Q (o :: rest) a (w1.alloc (.cells #[.int .u8 (c.toNat : Nat)] 5)) := by
  obtain ⟨i0, hi, hz0, hz1, hz2⟩ := info_parts info_u8
  refine wp_snoc hgd s x 44 5 ho Tryz.underlying44 hi hz0 hz1 hz2 rfl (by decide) [.int .u8 (c.toNat : Nat)] _ rfl hsv hxv hO hB hb rfl (by simp; rfl) hk (by decide) (fun v' w2 ho2 hb2 => h v' w2 ?_ hb2)
  unfold OwnB ByC
  rw [List.length_append, List.map_append]; exact ho2
theorem wp_snocS (hgd : o.guard = none) (s x : Operand) (ho : o.op = .call { callee := .builtin .append, args := #[s, x], argTypes := #[31, 31] })
    {l : List Bs} (c : Bs) (hsv : a.eval s = v) (hxv : a.eval x = .slice (some ⟨w1.heap.size, 0, none⟩) 1 1) (hO : OwnS B w1 v l) (hB : B ≤ w.heap.size) (hb : Below B w w1) (hk : l.length + 1 ≤ 3000000)
    (h : ∀ v' w2, OwnS B w2 v' (l ++ [c]) → Below B w w2 → wpList Tryz.prog ops Q rest (a.put o.dst v') w2) : wpList Tryz.prog ops Q (o :: rest) a (w1.alloc (.cells #[.string (bs c)] 9)) := by
  obtain ⟨i0, hi, hz0, hz1, hz2⟩ := info_parts info_str
  refine wp_snoc hgd s x 31 9 ho Tryz.underlying31 hi hz0 hz1 hz2 rfl (by decide) [.string (bs c)] _ rfl hsv hxv hO hB hb rfl (by simp; rfl) hk (by decide) (fun v' w2 ho2 hb2 => h v' w2 ?_ hb2)
  unfold OwnS StC
  rw [List.length_append, List.map_append]; exact ho2
theorem wp_snocH (hgd : o.guard = none) (s x : Operand) (ho : o.op = .call { callee := .builtin .append, args := #[s, x], argTypes := #[22, 22] })
    {l : List Hd} (c : Hd) (hsv : a.eval s = v) (hxv : a.eval x = .slice (some ⟨w1.heap.size, 0, none⟩) 1 1) (hO : OwnH B w1 v l) (hB : B ≤ w.heap.size) (hb : Below B w w1) (hk : l.length + 1 ≤ 3000000)
    (h : ∀ v' w2, OwnH B w2 v' (l ++ [c]) → Below B w w2 → wpList Tryz.prog ops Q rest (a.put o.dst v') w2) : wpList Tryz.prog ops Q (o :: rest) a (w1.alloc (.cells #[.string (bs c.1), .string (bs c.2)] 52)) := by
  obtain ⟨i0, hi, hz0, hz1, hz2⟩ := info_parts info_hd
  refine wp_snoc hgd s x 22 52 ho Tryz.underlying22 hi hz0 hz1 hz2 rfl (by decide) [.string (bs c.1), .string (bs c.2)] _ rfl hsv hxv hO hB hb rfl (by simp; exact ⟨rfl, rfl⟩) hk (by decide) (fun v' w2 ho2 hb2 => h v' w2 ?_ hb2)
  have e : HdC (l ++ [c]) = HdC l ++ [.string (bs c.1), .string (bs c.2)] := by simp [HdC]
  unfold OwnH
  rw [List.length_append, e]; exact ho2
theorem wp_addB (hgd : o.guard = none) (s x : Operand) (ho : o.op = .call { callee := .builtin .append, args := #[s, x], argTypes := #[44, 9] })
    {l : List UInt8} (c : List UInt8) (hsv : a.eval s = v) (hxv : a.eval x = .string (bs c)) (hO : OwnB B w1 v l) (hB : B ≤ w.heap.size) (hb : Below B w w1) (hk : l.length + c.length ≤ 140737488355328)
    (h : ∀ v' w2, OwnB B w2 v' (l ++ c) → Below B w w2 → wpList Tryz.prog ops Q rest (a.put o.dst v') w2) : wpList Tryz.prog ops Q (o :: rest) a w1 := by
  obtain ⟨i0, hi, hz0, hz1, hz2⟩ := info_parts info_u8
  refine wp_snocT hgd s x 44 9 5 ho Tryz.underlying44 Tryz.underlying9 hi hz0 hz1 hz2 c hsv hxv hO hB hb hk (fun v' w2 ho2 hb2 => h v' w2 ?_ hb2)
  unfold OwnB ByC
  rw [List.length_append, List.map_append]; exact ho2
end
theorem conv_none (w : World) : (convert 44 9 (.slice none 0 0)).run Tryz.prog w = .ok (.string ⟨#[]⟩) w := by kernel_rfl
theorem own_text {B : Nat} {w : World} {v : Value} {l : List UInt8} (h : OwnB B w v l) : (convert 44 9 v).run Tryz.prog w = .ok (.string (bs l)) w := by
  have ho := h
  obtain ⟨hl, ⟨rfl, h0⟩ | ⟨g, cap, cur, rfl, hg, hh, hn, hcm, hcs, htk⟩⟩ := h
  · have : l = [] := List.eq_nil_of_length_eq_zero h0
    subst this
    exact conv_none w
  · have hc := World.ownsRow.cells ho (g := g) rfl
    have hr := run_convert_bytes_arg (P := Tryz.prog) w 44 5 Tryz.underlying44 Tryz.underlying5 g 0 l.length cap (l.map fun x => ((x.toNat : Nat) : Int)) (by simp) (fun i hi => by
      obtain ⟨x, hx⟩ : ∃ x, l[i]? = some x := ⟨l[i], by simp [hi]⟩
      have := hc i (.int .u8 (x.toNat : Nat)) (by unfold ByC; rw [List.getElem?_map, hx]; rfl)
      rw [Addr.add_lit] at this
      rw [this]
      simp [List.getD, hx]) 9 Tryz.underlying9
    rw [hr]
    refine congrArg (fun s => Result.ok (Value.string s) w) ?_
    unfold strOfNums bs
    rw [List.map_map]
    refine congrArg (fun l => ByteArray.mk (List.toArray l)) ?_
    have : ∀ x : UInt8, (fun n : Int => UInt8.ofNat n.toNat) ((x.toNat : Nat) : Int) = x := fun x => by simp
    calc l.map _ = l.map id := List.map_congr_left fun x _ => this x
      _ = l := List.map_id l
end Go.Proofs.YtipjkjcmceeaeaaGreatDoor
