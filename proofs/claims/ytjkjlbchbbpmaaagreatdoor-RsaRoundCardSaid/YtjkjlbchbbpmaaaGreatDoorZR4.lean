/- R2Bm R2K0 R2SumP R2K1, in one text. -/
import Derived.Test.YtjkjlbchbbpmaaaGreatDoorZR2Of
import Derived.Lib.ConvBytes
import Derived.Lib.SmallJoins
/- Bytes in a row that a conversion made (its mark stands behind its last cell): append onto it. -/
namespace Go.Proofs.YtjkjlbchbbpmaaaGreatDoor
open Go.RowKit

/-- Bytes of the call's own, in a row that may bear a conversion's mark. -/
def BufM (w : World) (B : Nat) (v : Value) (l : List UInt8) : Prop :=
  ∃ g cap cur fz, v = .slice (some ⟨g, 0, none⟩) l.length cap ∧ B ≤ g ∧ w.heap[g]? = some (.cells cur 5 fz) ∧ (fz.2 = 0 ∨ cur.size ≤ fz.1) ∧ l.length ≤ cap ∧ cap ≤ maxLen ∧ cur.size = cap ∧ cur.toList.take l.length = l.map fun c => Value.int .u8 (c.toNat : Nat)
theorem BufM.of {w : World} {B : Nat} {v : Value} {l : List UInt8} (h : Buf w B v l) (h0 : 0 < l.length) : BufM w B v l := by
  obtain ⟨_, ⟨rfl, h2⟩ | ⟨g, cap, cur, rfl, hg, hh, h3, h4, h5, h6⟩⟩ := h
  · omega
  · rw [Nat.mul_one] at h5 h6
    exact ⟨g, cap, cur, (0, 0), rfl, hg, hh, Or.inl rfl, h3, h4, h5, h6⟩
theorem BufM.below {w w' : World} {B : Nat} {v : Value} {l : List UInt8} (h : BufM w B v l) (hb : Below w.heap.size w w') : BufM w' B v l := by
  obtain ⟨g, cap, cur, fz, hv, hg, hh, r⟩ := h
  exact ⟨g, cap, cur, fz, hv, hg, by rw [hb.block g (by have := (Array.getElem?_eq_some_iff.1 hh).1; omega)]; exact hh, r⟩
theorem BufM.cell {w : World} {B g : Nat} {cap : Nat} {l : List UInt8} (h : BufM w B (.slice (some ⟨g, 0, none⟩) l.length cap) l) (j : Nat) (hj : j < l.length) : w.cell? ⟨g, j, none⟩ = some (.int .u8 ((l.getD j 0).toNat : Nat)) := by
  obtain ⟨g', cap', cur, fz, hv, _, hh, _, _, _, _, ht⟩ := h
  injection hv with h1 _ _
  injection h1 with h1
  injection h1 with h1
  subst h1
  rw [cell_of_row w g j cur _ _ hh]
  have e : (cur.toList.take l.length)[j]? = cur[j]? := by rw [List.getElem?_take_of_lt hj]; simp
  rw [← e, ht, List.getElem?_map, List.getElem?_eq_getElem hj]
  simp [List.getD, List.getElem?_eq_getElem hj]
theorem BufM.form {w : World} {B : Nat} {v : Value} {l : List UInt8} (h : BufM w B v l) : ∃ g cap, v = .slice (some ⟨g, 0, none⟩) l.length cap ∧ l.length ≤ cap ∧ B ≤ g ∧ g < w.heap.size := by
  obtain ⟨g, cap, cur, fz, hv, hg, hh, _, h1, _⟩ := h
  exact ⟨g, cap, hv, h1, hg, (Array.getElem?_eq_some_iff.1 hh).1⟩

/-- Cells put into a row, none of which is frozen. -/
theorem storeCells_free (P : Program) (g o : Nat) (t : TypeId) (fz : Nat × Nat) : ∀ (vs : List Value) (i : Nat) (cur : Array Value) (w : World), w.heap[g]? = some (.cells cur t fz) → (fz.2 = 0 ∨ cur.size ≤ fz.1) → o + i + vs.length ≤ cur.size → (∀ v ∈ vs, v.oneCell' = true) →
    ∃ new : Array Value, (storeCells ⟨g, o, none⟩ vs i).run P w = .ok () (w.setRow g new) ∧ new.size = cur.size ∧ new.toList.take (o + i + vs.length) = cur.toList.take (o + i) ++ vs
  | [], i, cur, w, hg, _, _, _ => ⟨cur, by rw [setRow_self w g cur t fz hg]; rfl, rfl, by simp⟩
  | v :: vs, i, cur, w, hg, hf, hl, h1 => by
    have hl' : o + i + (vs.length + 1) ≤ cur.size := hl
    have hfro : w.frozen? ⟨g, o + i, none⟩ = false := by
      obtain ⟨lo, up⟩ := fz
      simp only at hf
      simp only [World.frozen?, hg, Bool.and_eq_false_iff, decide_eq_false_iff_not]
      omega
    have hcell : w.cell? ⟨g, o + i, none⟩ = some cur[o + i] := by rw [cell_of_row w g (o + i) cur t fz hg]; exact Array.getElem?_eq_getElem (by omega)
    have hst : (store ((⟨g, o, none⟩ : Addr).add i) v).run P w = .ok () (w.setRow g (cur.setIfInBounds (o + i) v)) := by
      rw [addr_add, run_store P w _ v _ (h1 v (by simp)), hcell]
      simp [hfro, setCell_eq_setRow w g (o + i) cur t fz v hg]
    obtain ⟨new, h2, h3, h4⟩ := storeCells_free P g o t fz vs (i + 1) (cur.setIfInBounds (o + i) v) (w.setRow g (cur.setIfInBounds (o + i) v)) (setRow_heap w g cur _ t _ hg) (by rw [Array.size_setIfInBounds]; exact hf) (by rw [Array.size_setIfInBounds]; omega) (fun x hx => h1 x (by simp [hx]))
    refine ⟨new, ?_, by rw [h3, Array.size_setIfInBounds], ?_⟩
    · simp only [storeCells, Sem.run_bind, hst, Result.andThen_ok, h2, setRow_setRow]
    · rw [show o + i + (v :: vs).length = o + (i + 1) + vs.length by simp only [List.length_cons]; omega, h4, Array.toList_setIfInBounds]
      have hk : o + i < cur.toList.length := by simp; omega
      rw [show o + (i + 1) = o + i + 1 by omega, List.take_succ_eq_append_getElem (by rw [List.length_set]; exact hk), List.take_set_of_le (Nat.le_refl _)]
      simp

/-- Onto bytes that may bear the mark: there's room, or there is a new row. -/
theorem wpList_append_bm (w : World) {ops : Array Oper} {rest : List Oper} {o : Oper} {a : Act} {Q : Exit → Act → World → Prop} (hgd : o.guard = none) (s x : Operand) (t : TypeId)
    (ho : o.op = .call { callee := .builtin .append, args := #[s, x], argTypes := #[t, t] }) (ht : Tryz.prog.underlying t = some (.slice 5)) (B : Nat) (v : Value) (l : List UInt8) (hs : a.eval s = v) (hb : BufM w B v l)
    (ad : Addr) (m c : Nat) (cs : List UInt8) (hx : a.eval x = .slice (some ad) m c) (hl : cs.length = m) (hnews : ∀ j u, (cs.map fun c => Value.int .u8 (c.toNat : Nat))[j]? = some u → w.cell? (ad.add j) = some u)
    (hlen : l.length + m ≤ 140737488355328) (hbase : B ≤ w.heap.size) (w0 : World) (hw0 : Below B w0 w)
    (h : ∀ v' w', BufM w' B v' (l ++ cs) → Below B w0 w' → wpList Tryz.prog ops Q rest (a.put o.dst v') w') : wpList Tryz.prog ops Q (o :: rest) a w := by
  obtain ⟨i, hi, hz0, hz1, hz2⟩ := info_parts info8
  obtain ⟨g, cap, cur, fz, rfl, hg, hh, hf, h3, h4, h5, h6⟩ := hb
  have hnl : (cs.map fun c => Value.int .u8 (c.toNat : Nat)).length = m * i.size := by rw [List.length_map, hl, hz1, Nat.mul_one]
  have hone : ∀ u ∈ (cs.map fun c => Value.int .u8 (c.toNat : Nat)), u.oneCell' = true := byte_cells cs
  have hmx : maxLen = 9223372036854775807 := rfl
  have key : ∃ v' w', (Builtin.append_ #[t, t] o.type #[.slice (some ⟨g, 0, none⟩) l.length cap, .slice (some ad) m c]).run Tryz.prog w = .ok v' w' ∧ BufM w' B v' (l ++ cs) ∧ w.grownBy w' (some g) := by
    by_cases hroom : l.length + m ≤ cap
    · obtain ⟨new, hst, hns, hnt⟩ := storeCells_free Tryz.prog g l.length 5 fz (cs.map fun c => Value.int .u8 (c.toNat : Nat)) 0 cur w hh hf (by rw [List.length_map, hl]; omega) hone
      have hff := run_firstCells_some (P := Tryz.prog) w i.size m ad m c _ hnl hnews
      refine ⟨.slice (some ⟨g, 0, none⟩) (l.length + m) cap, w.setRow g new, ?_, ⟨g, cap, new, fz, by rw [List.length_append, hl], hg, setRow_heap w g cur _ _ _ hh, by rw [hns]; exact hf, by rw [List.length_append, hl]; exact hroom, h4, by rw [hns]; exact h5, ?_⟩, ⟨rfl, rfl, rfl, by simp, fun k _ hk => setRow_other w g k _ (fun e => hk (by rw [e]))⟩⟩
      · rw [hz1] at hff
        simp [Builtin.append_, run_underlying ht, sizeOf, typeInfo, hi, hz1, Builtin.lenOf, hroom, hff, Addr.add_lit, hst]
      · rw [List.length_append, List.map_append, ← h6]
        simpa [hl] using hnt
    · have hr := run_append_grow (P := Tryz.prog) w t o.type 5 i (.int .u8 0) ht hi hz0 ⟨g, 0, none⟩ l.length cap (l.map fun c => Value.int .u8 (c.toNat : Nat)) (by rw [List.length_map, hz1, Nat.mul_one]) (fun j u hu => by
          have hj : j < l.length := by have := (List.getElem?_eq_some_iff.1 hu).1; simpa using this
          rw [addr_add, Nat.zero_add, cell_of_row w g j cur _ _ hh]
          rw [← h6, List.getElem?_take_of_lt hj] at hu
          simpa using hu) ad m c (cs.map fun c => Value.int .u8 (c.toNat : Nat)) hnl hnews (by omega) (by omega) (growslice_fits (by omega) (by rw [hz2]; omega))
      have hge := grownCap_ge w (l.length + m) cap 5
      have hcm := grownCap_le_maxLen w (l.length + m) cap 5 (by omega)
      refine ⟨_, _, hr, ⟨w.heap.size, _, _, (0, 0), by rw [List.length_append, hl], by omega, heap_alloc_new w.drew _, Or.inl rfl, by rw [List.length_append, hl]; exact hge, hcm, ?_, ?_⟩, ⟨rfl, rfl, rfl, by simp, fun k hk _ => heap_alloc_old w.drew _ hk⟩⟩
      · simp only [Array.size_append, List.size_toArray, size_zeroCells, List.length_map, hl]
        show _ + _ * 1 = _
        omega
      · have e : (l ++ cs).length = ((l.map fun c => Value.int .u8 (c.toNat : Nat)) ++ (cs.map fun c => Value.int .u8 (c.toNat : Nat))).length := by simp
        rw [e, List.map_append, Array.toList_append, List.take_left' (by simp)]
        simp
  obtain ⟨v', w', hr, hb', hgr⟩ := key
  refine wpList_plain hgd fun K hKK => ?_
  unfold Oper.wp execOp
  simp only [ho, resolve, invoke, builtin, Sem.run_bind, Sem.run_pure, Result.andThen_ok, List.map_toArray, List.map_cons, List.map_nil, hs, hx, hr]
  exact hKK _ _ (h v' w' hb' (hw0.grown hgr hbase (fun k hk => by injection hk with hk; omega)))

/-- '[]byte(s)'. -/
theorem wpList_bytesM (w : World) {ops : Array Oper} {rest : List Oper} {o : Oper} {a : Act} {Q : Exit → Act → World → Prop} (hgd : o.guard = none) (x : Operand) (ho : o.op = .convert 9 46 x) (s : ByteArray) (hx : a.eval x = .string s) (hsz : s.size ≤ 140737488355328)
    (hK : ∀ v w', BufM w' w.heap.size v s.data.toList → Below w.heap.size w w' → wpList Tryz.prog ops Q rest (a.put o.dst v) w') : wpList Tryz.prog ops Q (o :: rest) a w :=
  wpList_plain hgd fun K hKK => by
    have h1 := Lib.run_convert_string_bytes (P := Tryz.prog) w 9 46 5 s Tryz.underlying9 Tryz.underlying46 Tryz.underlying5
    unfold Oper.wp execOp
    simp only [ho, hx]
    rw [Sem.run_bind, h1]
    have hge := grownCap_ge w s.size 0 5
    have hmx : maxLen = 9223372036854775807 := rfl
    have hcm := grownCap_le_maxLen w s.size 0 5 (by omega)
    have hlen : s.data.toList.length = s.size := by simp
    have hcs : (Lib.bytesCells w 5 s).size = grownCap w s.size 0 5 := by
      have : s.data.size = s.size := rfl
      simp only [Lib.bytesCells, Array.size_append, Array.size_map, Array.size_replicate, this]
      omega
    exact hKK _ _ (hK _ _ ⟨w.heap.size, _, _, _, by rw [hlen], Nat.le_refl _, Lib.bytesWorld_at_new w _ s, Or.inr (Nat.le_refl _), by rw [hlen]; exact hge, hcm, hcs, by
      rw [hlen]
      have e : s.size = (s.data.map fun b => Value.int .u8 (b.toNat : Nat)).toList.length := by simp
      rw [Lib.bytesCells, Array.toList_append, e, List.take_left]
      simp⟩ (Joins.below_bytesWorld _ w _ s (Nat.le_refl _)))
end Go.Proofs.YtjkjlbchbbpmaaaGreatDoor
/- The reference of hash (layer 2): cut, ror, bytes: the walks; laws for words of 64 bits in drawn regions. -/
namespace Go.Proofs.YtjkjlbchbbpmaaaGreatDoor
open Go.RowKit

theorem run_shr64 {P : Program} {t : TypeId} {x n : Nat} (hn : n ≤ 64) (w : World) : (binOp .shr t (.int .u64 (x : Int)) (.int .i64 (n : Int))).run P w = .ok (.int .u64 ((x / 2 ^ n : Nat) : Int)) w := by
  rw [binOp_shr, shift_shr_u64 _ _ _ (by omega) (by omega), Int.toNat_natCast, Int.natCast_ediv, Int.natCast_pow]
  rfl
theorem run_shl64 {P : Program} {t : TypeId} {x n : Nat} (hn : n ≤ 64) (hx : x * 2 ^ n < 18446744073709551616) (w : World) : (binOp .shl t (.int .u64 (x : Int)) (.int .i64 (n : Int))).run P w = .ok (.int .u64 ((x * 2 ^ n : Nat) : Int)) w := by
  rw [binOp_shl, shift_shl_u64 _ _ _ (by omega) (by omega), Int.toNat_natCast]
  have e : (x : Int) * 2 ^ n = ((x * 2 ^ n : Nat) : Int) := by rw [Int.natCast_mul, Int.natCast_pow]; rfl
  rw [e, IntWalk.u64_in _ (by omega)]
  rfl
theorem run_or64 {P : Program} {t : TypeId} {x y : Nat} (hx : x < 18446744073709551616) (hy : y < 18446744073709551616) (w : World) : (binOp .or t (.int .u64 (x : Int)) (.int .u64 (y : Int))).run P w = .ok (.int .u64 ((x ||| y : Nat) : Int)) w := by
  rw [← u64_or_nat x y hx hy]; rfl
theorem run_xor64 {P : Program} {t : TypeId} {x y : Nat} (hx : x < 18446744073709551616) (hy : y < 18446744073709551616) (w : World) : (binOp .xor t (.int .u64 (x : Int)) (.int .u64 (y : Int))).run P w = .ok (.int .u64 ((x ^^^ y : Nat) : Int)) w := by
  rw [← u64_xor_nat x y hx hy]; rfl
theorem run_and64 {P : Program} {t : TypeId} {x y : Nat} (hx : x < 18446744073709551616) (hy : y < 18446744073709551616) (w : World) : (binOp .and t (.int .u64 (x : Int)) (.int .u64 (y : Int))).run P w = .ok (.int .u64 ((x &&& y : Nat) : Int)) w := by
  rw [← u64_and_nat x y hx hy]; rfl
theorem run_not64 {P : Program} {x : Nat} (hx : x < 18446744073709551616) (w : World) : (Op.unary .xor (.int .u64 (x : Int))).run P w = .ok (.int .u64 ((18446744073709551615 ^^^ x : Nat) : Int)) w := by
  rw [← u64_xor_nat 18446744073709551615 x (by omega) hx]; rfl
theorem run_muli {P : Program} {t : TypeId} {i j k : Nat} (h : i * j = k) (hk : k ≤ 4611686018427387904) (w : World) : (binOp .mul t (.int .i64 (i : Int)) (.int .i64 (j : Int))).run P w = .ok (.int .i64 (k : Int)) w := by
  have e : (k : Int) = IntKind.i64.wrap ((i : Int) * (j : Int)) := by rw [← h, ← Int.natCast_mul, h, IntWalk.i64_in _ (by omega)]
  rw [e]; rfl
theorem run_addi' {P : Program} {t : TypeId} {i j k : Nat} (h : i + j = k) (hk : k ≤ 4611686018427387904) (w : World) : (binOp .add t (.int .i64 (i : Int)) (.int .i64 (j : Int))).run P w = .ok (.int .i64 (k : Int)) w := by
  rw [← h]; exact run_addi (by omega) w
theorem isAgg_word64 : ∀ w : World, (isAgg 51).run Tryz.prog w = .ok false w := Tryz.isAgg51

section
variable {P : Program} {B : Nat} {w0 w : World} {L : List (Nat × Array Value × TypeId)} {S : StRow} {ops : Array Oper} {l : List Oper} {n : Nat} {a : Act} {Q : Act → Prop} {o : Oper}
/-- An element's address in an array that lies within a row. -/
theorem lexC_ixo {t e : TypeId} {x y : Operand} {g q k n' : Nat} {kd : IntKind} (ho : o.op = .indexAddr t x y) (hx : a.eval x = .pointer (some ⟨g, q, none⟩)) (hy : a.eval y = .int kd (k : Int)) (hu : P.underlying t = some (.array n' e)) (hs : (P.info? e).map (·.size) = some 1) (hk : k < n')
    (h : lexC P B w0 L S ops Q n l (a.put o.dst (.pointer (some ⟨g, q + k, none⟩)))) (hwt : Region.wanted o (yielded ops a.tmps) = true := by rfl) : lexC P B w0 L S ops Q (n + 1) (o :: l) a :=
  lexC_val (fun w => by
    have e1 : P.elem t = e := by simp [Program.elem, hu]
    have e2 : P.arrayLen t = n' := by simp [Program.arrayLen, hu]
    have h1 : (Instr.indexAt t (.pointer (some ⟨g, q, none⟩)) (.int kd (k : Int))).run P w = .ok (.pointer (some ⟨g, q + k, none⟩)) w := by
      have hu' : P.underlying t = some (.array (P.arrayLen t) (P.elem t)) := by rw [e1, e2]; exact hu
      cases hq : P.info? e with
      | none => simp [hq] at hs
      | some i =>
        have h0 : i.size = 1 := by simpa [hq] using hs
        rw [run_indexAt_array (h := hu')]
        simp [e1, e2, sizeOf, typeInfo, hq, h0, Sem.run_bind, Result.andThen, Addr.add_lit, hk]
    unfold execOp
    simp only [ho, hx, hy]
    rw [Sem.run_bind, h1]
    rfl) h hwt (by rw [ho]; rfl)
/-- A whole row of what was there before. -/
theorem lexC_oldrow {t t2 : TypeId} {x : Operand} {g : Nat} {cs : Array Value} {d : TypeDesc} (ho : o.op = .load t x) (hx : a.eval x = .pointer (some ⟨g, 0, none⟩)) (hg : g < B) (hc : w0.heap[g]? = some (.cells cs t2 (0, 0)))
    (hu : P.underlying t = some d) (hd : (match d with | .struct _ | .array _ _ => true | _ => false) = true) (hi : (P.info? t).map (·.size) = some cs.size)
    (h : lexC P B w0 L S ops Q n l (a.put o.dst (.agg cs))) (hwt : Region.wanted o (yielded ops a.tmps) = true := by rfl) : lexC P B w0 L S ops Q (n + 1) (o :: l) a :=
  ⟨.agg cs, fun _ _ _ w hw => by
    have h1 := run_load_part (P := P) (w := w) (k := 0) (vs := cs) ((hw.below.block g hg).trans hc) hu hd hi (fun j _ => by rw [Nat.zero_add])
    have h2 : (execOp a.eval o).run P w = .ok (.value (.agg cs)) w := by
      unfold execOp
      simp only [ho, hx]
      rw [Sem.run_bind, h1]
      rfl
    rw [h2]; exact ⟨rfl, rfl⟩, fun h0 => absurd (hwt.symm.trans h0) (by decide), fun hs => (by rw [ho] at hs; cases hs), h⟩
end

theorem mask6432 {x : Nat} (h : x < 18446744073709551616) : bits BinOp.and IntKind.u64 (x : Int) 4294967295 = ((x % 4294967296 : Nat) : Int) := by
  have := u64_and_nat x 4294967295 h (by omega)
  rw [show (4294967295 : Nat) = 2 ^ 32 - 1 from rfl, Nat.and_two_pow_sub_one_eq_mod] at this
  exact this

set_option maxRecDepth 100000 in
theorem r2cut_any (kv fv : Value) (x : Nat) (w : World) (hx : x < 18446744073709551616) :
    Calls Tryz.prog 107 #[.agg (kdc kv fv), .int .u64 (x : Int)] w fun e w' => e = .returned (.int .u64 ((x % 4294967296 : Nat) : Int)) ∧ Below w.heap.size w w' := by
  have hR0 := Rws.start w
  go_enter Tryz.func107, Tryz.ntmps107
  go_upto_region 1 with (refine wpList_box_rws rfl _ _ (by rfl) (by assumption) _ rfl ?_; intro g2 w1 hR)
  have c0 : w1.cell? ⟨g2, 0, none⟩ = some (.int .i64 32) := hR.cellAt (List.Mem.head _) 0 rfl
  go_wp2_with fail
  go_ret
  exact ⟨by rw [mask6432 hx]; rfl, hR.below⟩

theorem ror_mod (x n m : Nat) (hx : x < 4294967296) : (x / 2 ^ n ||| x * 2 ^ m) % 4294967296 = x / 2 ^ n ||| x * 2 ^ m % 4294967296 := by
  have h : x / 2 ^ n < 4294967296 := Nat.lt_of_le_of_lt (Nat.div_le_self _ _) hx
  rw [show (4294967296 : Nat) = 2 ^ 32 from rfl, Nat.or_mod_two_pow, Nat.mod_eq_of_lt h]

set_option maxRecDepth 100000 in
theorem r2ror_any (kv fv : Value) (x n : Nat) (w : World) (hx : x < 4294967296) (hn : n ≤ 32) :
    Calls Tryz.prog 108 #[.agg (kdc kv fv), .int .u64 (x : Int), .int .i64 (n : Int)] w fun e w' => e = .returned (.int .u64 ((ror32 x n : Nat) : Int)) ∧ Below w.heap.size w w' := by
  have hR0 := Rws.start w
  obtain ⟨m, hm⟩ : ∃ m, m + n = 32 := ⟨32 - n, by omega⟩
  have h1 : x / 2 ^ n < 18446744073709551616 := Nat.lt_of_le_of_lt (Nat.div_le_self _ _) (by omega)
  have h2 : x * 2 ^ m < 18446744073709551616 := by
    have := Nat.mul_le_mul (show x ≤ 4294967295 by omega) (Nat.pow_le_pow_right (show 0 < 2 by omega) (show m ≤ 32 by omega))
    omega
  have h3 : x / 2 ^ n ||| x * 2 ^ m < 18446744073709551616 := Nat.or_lt_two_pow (n := 64) h1 h2
  have H1 := Lib.hid h1; have H2 := Lib.hid h2; have H3 := Lib.hid h3; have HM := Lib.hid hm
  clear h1 h2 h3 hm
  go_enter Tryz.func108, Tryz.ntmps108
  go_upto_region 1 with (refine wpList_box_rws rfl _ _ (by rfl) (by assumption) _ rfl ?_; intro g2 w1 hR)
  refine wp_region_calm 12 (by rfl) (by kernel_rfl) (by assumption) ?_
  refine lexC_load0 (cs := kdc kv fv) rfl rfl (by repeat (first | exact List.Mem.head _ | refine List.Mem.tail _ ?_)) Tryz.underlying99 rfl kd_info ?_
  simp only [Act.put, List.setIfInBounds_toArray, List.set_cons_succ, List.set_cons_zero]
  refine lexC_move rfl rfl ?_
  simp only [Act.put, List.setIfInBounds_toArray, List.set_cons_succ, List.set_cons_zero]
  refine lexC_move rfl rfl ?_
  simp only [Act.put, List.setIfInBounds_toArray, List.set_cons_succ, List.set_cons_zero]
  refine lexC_bin rfl rfl rfl (run_shr64 (by omega)) (fun _ => rfl) ?_
  simp only [Act.put, List.setIfInBounds_toArray, List.set_cons_succ, List.set_cons_zero]
  refine lexC_move rfl rfl ?_
  simp only [Act.put, List.setIfInBounds_toArray, List.set_cons_succ, List.set_cons_zero]
  refine lexC_field rfl rfl Tryz.underlying99 rfl ⟨0, by kernel_rfl⟩ rfl ?_
  simp only [Act.put, List.setIfInBounds_toArray, List.set_cons_succ, List.set_cons_zero]
  refine lexC_word (k := 0) (v := .int .i64 ((32 : Nat) : Int)) rfl rfl (by repeat (first | exact List.Mem.head _ | refine List.Mem.tail _ ?_)) rfl isAgg_int ?_
  simp only [Act.put, List.setIfInBounds_toArray, List.set_cons_succ, List.set_cons_zero]
  refine lexC_move rfl rfl ?_
  simp only [Act.put, List.setIfInBounds_toArray, List.set_cons_succ, List.set_cons_zero]
  refine lexC_bin rfl rfl rfl (run_subi HM.out (by omega)) (fun _ => rfl) ?_
  simp only [Act.put, List.setIfInBounds_toArray, List.set_cons_succ, List.set_cons_zero]
  refine lexC_bin rfl rfl rfl (run_shl64 (by have := HM.out; omega) H2.out) (fun _ => rfl) ?_
  simp only [Act.put, List.setIfInBounds_toArray, List.set_cons_succ, List.set_cons_zero]
  refine lexC_bin rfl rfl rfl (run_or64 H1.out H2.out) (fun _ => rfl) ?_
  simp only [Act.put, List.setIfInBounds_toArray, List.set_cons_succ, List.set_cons_zero]
  refine lexC_call rfl Tryz.func107 (by kernel_rfl) rfl rfl (fun w _ => r2cut_any kv fv _ w H3.out) ?_
  simp only [Act.put, List.setIfInBounds_toArray, List.set_cons_succ, List.set_cons_zero]
  refine lexC_zero ?_; simp only [List.take_succ_cons, List.take_zero, List.drop_succ_cons, List.drop_zero]; (repeat (first | (refine aN_cons (by rfl) ?_; intro g; simp only [Act.put, List.setIfInBounds_toArray, List.set_cons_succ, List.set_cons_zero]) | (refine afterAl_skip (by rfl) ?_))); refine afterAl_nil ?_; intro w1 hR
  go_wp2_with fail
  go_ret
  refine ⟨?_, hR.below⟩
  rw [ror_mod x n m hx]
  unfold ror32
  rw [show 32 - n = m by have := HM.out; omega]
  rfl

/-- A number's bytes, the highest first. -/
def bytesL (x many : Nat) : List UInt8 := (List.range many).map fun i => UInt8.ofNat (x / 2 ^ (8 * (many - 1 - i)) % 256)
theorem bytesL_length (x many : Nat) : (bytesL x many).length = many := by simp [bytesL]
theorem bytesL_take (x many i : Nat) (hi : i < many) : (bytesL x many).take (i + 1) = (bytesL x many).take i ++ [UInt8.ofNat (x / 2 ^ (8 * (many - 1 - i)) % 256)] := by
  rw [List.take_succ_eq_append_getElem (by rw [bytesL_length]; exact hi)]
  simp [bytesL]

set_option maxRecDepth 100000 in
set_option maxHeartbeats 1600000 in
theorem r2bytes_any (x many : Nat) (w : World) (hx : x < 18446744073709551616) (hm : many ≤ 8) :
    Calls Tryz.prog 106 #[.int .u64 (x : Int), .int .i64 (many : Int)] w fun e w' => ∃ v, e = .returned v ∧ Buf w' w.heap.size v (bytesL x many) ∧ Below w.heap.size w w' := by
  have hsub : IntKind.i64.wrap ((many : Int) - 1) = (many : Int) - 1 := IntWalk.i64_in _ (by omega)
  go_enter Tryz.func106, Tryz.ntmps106
  have hb0 : Buf (w.alloc (.cells #[] 5)) w.heap.size (.slice (some ⟨w.heap.size, 0, none⟩) 0 0) ((bytesL x many).take 0) := by rw [List.take_zero]; exact buf_new w [] (by decide)
  go_upto_region 3 with fail
  go_loopw [5, 6] (fun bv iv wr => ∃ i : Nat, i ≤ many ∧ iv = .int .i64 ((many : Int) - 1 - (i : Int)) ∧ Buf wr w.heap.size bv ((bytesL x many).take i) ∧ Below w.heap.size w wr) (fun _ iv _ => (intOf iv + 1).toNat)
  case atStart => exact ⟨0, Nat.zero_le _, by simp, hb0, (Below.refl _ _).alloc (Nat.le_refl _) _⟩
  case round =>
    clear hb0
    obtain ⟨i, hi, rfl, hbuf, hbel⟩ := hrel
    by_cases hin : i < many
    · obtain ⟨k, hk⟩ : ∃ k, k + i + 1 = many := ⟨many - i - 1, by omega⟩
      have ek : (many : Int) - 1 - (i : Int) = (k : Int) := by omega
      have hk8 : k ≤ 7 := by omega
      rw [ek]
      obtain ⟨c, hc⟩ : ∃ c, c = x / 2 ^ (8 * k) % 256 := ⟨_, rfl⟩
      obtain ⟨cs, hcs⟩ : ∃ cs, cs = [UInt8.ofNat c] := ⟨_, rfl⟩
      have hc256 : c < 256 := by rw [hc]; exact Nat.mod_lt _ (by omega)
      have hcl : cs.length = 1 := by rw [hcs]; rfl
      have hcv : (cs.map fun c => Value.int .u8 (c.toNat : Nat)) = [Value.int .u8 (c : Int)] := by rw [hcs]; simp [toNat_ofNat8 c hc256]
      have hps : (bytesL x many).take (i + 1) = (bytesL x many).take i ++ cs := by rw [bytesL_take x many i hin, show many - 1 - i = k by omega, ← hc, hcs]
      have hpl : ((bytesL x many).take i).length + 1 ≤ 140737488355328 := by rw [List.length_take, bytesL_length]; omega
      have hsz := hbel.size
      have hd7 : decide ((k : Int) > 7) = false := by rw [decide_eq_false_iff_not]; omega
      have hd0 : decide ((k : Int) ≥ 0) = true := by rw [decide_eq_true_eq]; omega
      have hand : bits BinOp.and IntKind.u64 ((x : Int) / 2 ^ (8 * k)) 255 % 256 = (c : Int) := by
        have h := u64_and_nat (x / 2 ^ (8 * k)) 255 (Nat.lt_of_le_of_lt (Nat.div_le_self _ _) hx) (by omega)
        rw [show (255 : Nat) = 2 ^ 8 - 1 from rfl, Nat.and_two_pow_sub_one_eq_mod, show (2 : Nat) ^ 8 = 256 from rfl, ← hc, Int.natCast_ediv, Int.natCast_pow] at h
        refine (congrArg (· % 256) h).trans ?_
        show (c : Int) % 256 = c
        omega
      have HCV := Lib.hid hcv; have HPS := Lib.hid hps; have HPL := Lib.hid hpl; have HCL := Lib.hid hcl; have HAND := Lib.hid hand; have HK := Lib.hid hk
      clear hcs hcv hps hpl hcl hand ek hk hc
      have hcv8 : IntKind.u8.wrap (c : Int) = (c : Int) := by rw [IntKind.wrap_u8]; omega
      have h8k : IntKind.i64.wrap (8 * (k : Int)) = ((8 * k : Nat) : Int) := by rw [IntWalk.i64_in _ (by omega)]; omega
      go_upto_region 7 with fail
      go_wp2_with (first
        | (at_builtin; refine wpList_append_buf _ rfl (.tmp 19) (.tmp 26) _ rfl Tryz.underlying46 w.heap.size _ ((bytesL x many).take i) rfl (hbuf.below ((Below.refl _ _).alloc (Nat.le_refl _) _)) ⟨wr.heap.size, 0, none⟩ 1 1 cs rfl HCL.out ?h1 HPL.out (by simp; omega) w (hbel.alloc (by omega) _) ?_; rotate_left; intro v' w4 hbuf3 hbel3 _))
      case h1 => rw [HCV.out, HAND.out]; exact new_cells _ _ _
      go_roundw
      case rel => exact ⟨i + 1, by omega, by congr 1; have := HK.out; omega, by rw [HPS.out]; exact hbuf3, hbel3⟩
      case measure => simp [intOf]; try omega
    · obtain rfl : i = many := by omega
      have ed : (i : Int) - 1 - (i : Int) = -1 := by omega
      rw [ed]
      go_wp2_with fail
      go_ret
      exact ⟨_, rfl, by rw [List.take_of_length_le (by rw [bytesL_length]; exact Nat.le_refl _)] at hbuf; exact hbuf, hbel⟩
end Go.Proofs.YtjkjlbchbbpmaaaGreatDoor
/- The reference of hash (layer 2): the sum: plain. -/
namespace Go.Proofs.YtjkjlbchbbpmaaaGreatDoor
open Go.RowKit

/-- All bytes: the text and what is laid behind it. -/
def textF (s : ByteArray) : Nat → Nat := fun i => (s.data.toList.getD i 0).toNat
def allF (s : ByteArray) : Nat → Nat := padF (textF s) s.size (padT s.size)
theorem sha_all (s : ByteArray) : sha s = ⟨(stB (fold32 firstF (allF s) (padT s.size / 64))).toArray⟩ := rfl
theorem allF_lt (s : ByteArray) (j : Nat) : allF s j < 256 := by
  unfold allF padF
  split
  · exact UInt8.toNat_lt _
  · split
    · omega
    · split
      · omega
      · exact Nat.mod_lt _ (by omega)
theorem padL_end (n e : Nat) (h : n + e + 8 = padT n) (he : 0 < e) : padL n e ++ bytesL (8 * n) 8 = padL n (e + 8) := by
  have hb : bytesL (8 * n) 8 = (List.range 8).map fun j => UInt8.ofNat (padB n (e + j)) := by
    unfold bytesL
    apply List.map_congr_left
    intro j hj
    have hj8 := List.mem_range.1 hj
    rw [padB_end n (e + j) (7 - j) (by omega) (by omega) (by omega)]
  rw [hb]
  unfold padL
  rw [List.range_add, List.map_append, List.map_map]
  rfl
theorem all_getD (s : ByteArray) (k : Nat) (hk : s.size + k = padT s.size) (j : Nat) (hj : j < s.size + k) : ((s.data.toList ++ padL s.size k).getD j 0).toNat = allF s j := by
  have hl : s.data.toList.length = s.size := by simp
  unfold allF
  by_cases h : j < s.size
  · rw [List.getD_eq_getElem?_getD, List.getElem?_append_left (by rw [hl]; exact h), ← List.getD_eq_getElem?_getD]
    unfold padF
    rw [if_pos h]; rfl
  · rw [List.getD_eq_getElem?_getD, List.getElem?_append_right (by rw [hl]; omega), hl]
    obtain ⟨i, rfl⟩ : ∃ i, j = s.size + i := ⟨j - s.size, by omega⟩
    rw [Nat.add_sub_cancel_left, padF_tail]
    unfold padL
    rw [List.getElem?_map, List.getElem?_range (by omega)]
    exact toNat_ofNat8 _ (padB_lt s.size i)
theorem stB_take (v : Nat → Nat) (i : Nat) (hi : i < 8) : (stB v).take (4 * (i + 1)) = (stB v).take (4 * i) ++ bytesL (v i) 4 := by
  unfold stB bytesL
  rcases (by omega : i = 0 ∨ i = 1 ∨ i = 2 ∨ i = 3 ∨ i = 4 ∨ i = 5 ∨ i = 6 ∨ i = 7) with rfl | rfl | rfl | rfl | rfl | rfl | rfl | rfl <;> rfl
theorem stB_length (v : Nat → Nat) : (stB v).length = 32 := by simp [stB]

/-- The words, one number at a time, in sums that don't wrap. -/
theorem wstep_sum (f : Nat → Nat) (i : Nat) : (f (i - 16) + mix32 (f (i - 15)) 7 18 3 true + f (i - 7) + mix32 (f (i - 2)) 17 19 10 true) % 4294967296 = wstep f i i := by
  unfold wstep
  rw [if_pos rfl]; omega
theorem rT_sum (v : Nat → Nat) (k w : Nat) : (v 7 + mix32 (v 4) 6 11 25 false + ((v 4 &&& v 5) ^^^ ((4294967295 ^^^ v 4) &&& v 6)) + k + w) % 4294967296 = rT v k w := by
  unfold rT; omega
theorem rU_sum (v : Nat → Nat) : (mix32 (v 0) 2 13 22 false + ((v 0 &&& v 1) ^^^ (v 0 &&& v 2) ^^^ (v 1 &&& v 2))) % 4294967296 = rU v := rfl
theorem not_mod (x : Nat) (hx : x < 4294967296) : (18446744073709551615 ^^^ x) % 4294967296 = 4294967295 ^^^ x := by
  rw [show (4294967296 : Nat) = 2 ^ 32 from rfl, Nat.xor_mod_two_pow, Nat.mod_eq_of_lt hx]
end Go.Proofs.YtjkjlbchbbpmaaaGreatDoor
/- The reference of hash (layer 2): laws for the walk of (Kind).Sum. -/
namespace Go.Proofs.YtjkjlbchbbpmaaaGreatDoor
open Go.RowKit

section
variable {P : Program} {B : Nat} {w0 w : World} {L : List (Nat × Array Value × TypeId)} {S : StRow} {ops : Array Oper} {l : List Oper} {n : Nat} {a : Act} {Q : Act → Prop} {o : Oper}
theorem lexC_conv {t1 t2 : TypeId} {x : Operand} {u r : Value} (ho : o.op = .convert t1 t2 x) (hx : a.eval x = u) (hr : ∀ w : World, (convert t1 t2 u).run P w = .ok r w)
    (h : lexC P B w0 L S ops Q n l (a.put o.dst r)) (hwt : Region.wanted o (yielded ops a.tmps) = true := by rfl) : lexC P B w0 L S ops Q (n + 1) (o :: l) a :=
  lexC_val (fun w => by
    unfold execOp
    simp only [ho, hx]
    rw [Sem.run_bind, hr w]
    rfl) h hwt (by rw [ho]; rfl)
end
theorem run_conv864 (c : Nat) (hc : c < 256) (w : World) : (convert 5 51 (.int .u8 (c : Int))).run Tryz.prog w = .ok (.int .u64 (c : Int)) w := by
  have h := run_convert_int (P := Tryz.prog) w 5 51 .u8 (c : Int) (by rw [Tryz.underlying5]; rfl) (by rw [show Tryz.prog.intKind 51 = .u64 by kernel_rfl]; exact Tryz.underlying51)
  rw [show Tryz.prog.intKind 51 = .u64 by kernel_rfl, IntWalk.u64_in _ (by omega)] at h
  exact h
theorem run_shl8 {P : Program} {t : TypeId} {x : Nat} (hx : x < 4294967296) (w : World) : (binOp .shl t (.int .u64 (x : Int)) (.int .u64 8)).run P w = .ok (.int .u64 ((x * 256 : Nat) : Int)) w := by
  rw [binOp_shl, shift_shl_u64 _ _ _ (by omega) (by omega)]
  have e : (x : Int) * 2 ^ (8 : Int).toNat = ((x * 256 : Nat) : Int) := by simp
  rw [e, IntWalk.u64_in _ (by omega)]
  rfl
theorem run_or8 {P : Program} {t : TypeId} {x c : Nat} (hx : x < 4294967296) (hc : c < 256) (w : World) : (binOp .or t (.int .u64 ((x * 256 : Nat) : Int)) (.int .u64 (c : Int))).run P w = .ok (.int .u64 ((x * 256 + c : Nat) : Int)) w := by
  rw [run_or64 (by omega) (by omega)]
  have h2 := Nat.two_pow_add_eq_or_of_lt (i := 8) (b := c) hc x
  rw [Nat.mul_comm x 256, show (256 : Nat) = 2 ^ 8 from rfl, ← h2]
theorem run_xorw {P : Program} {t : TypeId} {x y : Nat} (hx : x < 4294967296) (hy : y < 4294967296) (w : World) : (binOp .xor t (.int .u64 (x : Int)) (.int .u64 (y : Int))).run P w = .ok (.int .u64 ((x ^^^ y : Nat) : Int)) w := run_xor64 (by omega) (by omega) w
theorem run_andw {P : Program} {t : TypeId} {x y : Nat} (hx : x < 4294967296) (hy : y < 4294967296) (w : World) : (binOp .and t (.int .u64 (x : Int)) (.int .u64 (y : Int))).run P w = .ok (.int .u64 ((x &&& y : Nat) : Int)) w := run_and64 (by omega) (by omega) w
theorem run_addw {P : Program} {t : TypeId} {x y : Nat} (hx : x < 1152921504606846976) (hy : y < 1152921504606846976) (w : World) : (binOp .add t (.int .u64 (x : Int)) (.int .u64 (y : Int))).run P w = .ok (.int .u64 ((x + y : Nat) : Int)) w := run_add64s (by omega) w

theorem isAgg_sl : ∀ w : World, (isAgg 47).run Tryz.prog w = .ok false w := Tryz.isAgg47

/-- A row of the call's own of words whose first n cells are these. -/
def OwnC (w : World) (g n : Nat) (f : Nat → Nat) : Prop := ∃ cs, w.heap[g]? = some (.cells cs 51 (0, 0)) ∧ n ≤ cs.size ∧ ∀ j, j < n → cs[j]? = some (.int .u64 ((f j : Nat) : Int))
theorem OwnC.lt {w : World} {g n : Nat} {f : Nat → Nat} (h : OwnC w g n f) : g < w.heap.size := by
  obtain ⟨cs, h1, _⟩ := h
  exact (Array.getElem?_eq_some_iff.1 h1).1
theorem OwnC.cell {w : World} {g n : Nat} {f : Nat → Nat} (h : OwnC w g n f) (j : Nat) (hj : j < n) : w.cell? ⟨g, j, none⟩ = some (.int .u64 ((f j : Nat) : Int)) := by
  obtain ⟨cs, h1, _, h2⟩ := h
  exact (cell_of_row w g j cs _ _ h1).trans (h2 j hj)
theorem OwnC.frozen {w : World} {g n : Nat} {f : Nat → Nat} (h : OwnC w g n f) (j : Nat) : w.frozen? ⟨g, j, none⟩ = false := by
  obtain ⟨cs, h1, _⟩ := h
  simp [World.frozen?, h1]
theorem OwnC.below {w w' : World} {g n : Nat} {f : Nat → Nat} (h : OwnC w g n f) (hb : Below w.heap.size w w') : OwnC w' g n f := by
  have hl := h.lt
  obtain ⟨cs, h1, r⟩ := h
  exact ⟨cs, (hb.block g hl).trans h1, r⟩
theorem OwnC.at {w w' : World} {g n : Nat} {f : Nat → Nat} (h : OwnC w g n f) (hb : w'.heap[g]? = w.heap[g]?) : OwnC w' g n f := by
  obtain ⟨cs, h1, r⟩ := h
  exact ⟨cs, hb.trans h1, r⟩
theorem OwnC.congr {w : World} {g n : Nat} {f f' : Nat → Nat} (h : OwnC w g n f) (he : ∀ j, j < n → f j = f' j) : OwnC w g n f' := by
  obtain ⟨cs, h1, h2, h3⟩ := h
  exact ⟨cs, h1, h2, fun j hj => by rw [← he j hj]; exact h3 j hj⟩
theorem OwnC.set {w : World} {g n : Nat} {f f' : Nat → Nat} (h : OwnC w g n f) (j x : Nat) (he : ∀ i, i < n → f' i = if i = j then x else f i) : OwnC (w.setCell ⟨g, j, none⟩ (.int .u64 ((x : Nat) : Int))) g n f' := by
  obtain ⟨cs, h1, h2, h3⟩ := h
  rw [setCell_eq_setRow w g j cs _ _ _ h1]
  refine ⟨_, setRow_heap w g cs _ _ _ h1, by rw [Array.size_setIfInBounds]; exact h2, fun i hi => ?_⟩
  rw [he i hi]
  by_cases e : i = j
  · subst e
    rw [if_pos rfl, Array.getElem?_setIfInBounds_self_of_lt (by omega)]
  · rw [if_neg e, Array.getElem?_setIfInBounds_ne (fun h => e h.symm)]
    exact h3 i hi
theorem OwnC.rd {w : World} {g n : Nat} {f : Nat → Nat} (h : OwnC w g n f) (cap : Nat) (h1 : n ≤ cap) (h2 : cap ≤ 9223372036854775807) : Rd w .u64 (some ⟨g, 0, none⟩) n cap f :=
  ⟨Sh.some _ _ _, h1, h2, fun j hj => by rw [blk_some, off_some, Nat.zero_add]; exact h.cell j hj⟩
theorem OwnC.of {w : World} {B : Nat} {v : Value} {l : List Nat} (h : B64 w B v l) (h0 : 0 < l.length) : ∃ g cap, v = .slice (some ⟨g, 0, none⟩) l.length cap ∧ B ≤ g ∧ l.length ≤ cap ∧ cap ≤ 9223372036854775807 ∧ OwnC w g l.length (fun j => l.getD j 0) := by
  obtain ⟨_, ⟨rfl, h2⟩ | ⟨g, cap, cur, rfl, hg, hh, h3, h4, h5, h6⟩⟩ := h
  · omega
  · refine ⟨g, cap, rfl, hg, h3, h4, cur, hh, by omega, fun j hj => ?_⟩
    rw [Nat.mul_one] at h6
    have e : (cur.toList.take l.length)[j]? = cur[j]? := by rw [List.getElem?_take_of_lt hj]; simp
    rw [← e, h6, List.getElem?_map, List.getElem?_eq_getElem hj]
    simp [List.getD, List.getElem?_eq_getElem hj]
theorem Rd.word {w : World} {k : IntKind} {g n cap : Nat} {f : Nat → Nat} (h : Rd w k (some ⟨g, 0, none⟩) n cap f) (j : Nat) (hj : j < n) : w.cell? ⟨g, j, none⟩ = some (.int k ((f j : Nat) : Int)) := by
  have := h.cell j hj
  rwa [blk_some, off_some, Nat.zero_add] at this

/-- All as it was, but for one row. -/
theorem gb_refl (w : World) (row : Option Nat) : w.grownBy w row := ⟨rfl, rfl, rfl, Nat.le_refl _, fun _ _ _ => rfl⟩
theorem gb_below {w wr w' : World} {row : Option Nat} (h : w.grownBy wr row) (hb : Below wr.heap.size wr w') : w.grownBy w' row :=
  ⟨hb.os.trans h.os, hb.tape.trans h.tape, hb.output.trans h.output, Nat.le_trans h.size hb.size, fun k hk hr => (hb.block k (Nat.lt_of_lt_of_le hk h.size)).trans (h.block k hk hr)⟩
theorem gb_set {w wr : World} {g : Nat} (h : w.grownBy wr (some g)) (j : Nat) (v : Value) : w.grownBy (wr.setCell ⟨g, j, none⟩ v) (some g) :=
  ⟨h.os, h.tape, h.output, by rw [World.size_setCell]; exact h.size, fun k hk hr => (Below.heap_setCell wr ⟨g, j, none⟩ v k (fun e => hr (congrArg some e))).trans (h.block k hk hr)⟩

/-- The words of a block, under way. -/
def wIn (b : Nat → Nat) (i n : Nat) : Nat → Nat := fun j => if j < i then wordN b j 4 else if j = i then wordN b i n else 0
def wHd (b : Nat → Nat) (i : Nat) : Nat → Nat := fun j => if j < i then wordN b j 4 else 0
theorem wHd_0 (b : Nat → Nat) (j : Nat) : 0 = wHd b 0 j := by unfold wHd; rw [if_neg (Nat.not_lt_zero j)]
theorem wHd_in (b : Nat → Nat) (i j : Nat) : wHd b i j = wIn b i 0 j := by
  unfold wHd wIn
  by_cases h : j < i
  · rw [if_pos h, if_pos h]
  · rw [if_neg h, if_neg h]
    by_cases e : j = i
    · rw [if_pos e]; rfl
    · rw [if_neg e]
theorem wIn_hd (b : Nat → Nat) (i j : Nat) : wIn b i 4 j = wHd b (i + 1) j := by
  unfold wHd wIn
  by_cases h : j < i
  · rw [if_pos h, if_pos (by omega)]
  · rw [if_neg h]
    by_cases e : j = i
    · rw [if_pos e, if_pos (by omega), e]
    · rw [if_neg e, if_neg (by omega)]
theorem wIn_next (b : Nat → Nat) (i n x : Nat) (hx : x = wordN b i (n + 1)) (j : Nat) : (if j = i then x else wIn b i n j) = wIn b i (n + 1) j := by
  unfold wIn
  by_cases e : j = i
  · rw [if_pos e, e, if_neg (by omega), if_pos rfl, hx]
  · rw [if_neg e, if_neg e, if_neg e]
theorem wHd_16 (b : Nat → Nat) (j : Nat) : wHd b 16 j = wrun (wordsOf b) 0 j := rfl
theorem wIn_lt (b : Nat → Nat) (hb : ∀ i, b i < 256) (i n : Nat) (hn : n < 4) : wIn b i n i < 16777216 := by
  unfold wIn
  rw [if_neg (by omega), if_pos rfl]
  exact Nat.lt_of_lt_of_le (wordN_lt b hb i n) (Nat.le_trans (Nat.pow_le_pow_right (by omega) (show n ≤ 3 by omega)) (by decide))
theorem wIn_at (b : Nat → Nat) (i n : Nat) : wIn b i n i = wordN b i n := by
  unfold wIn
  rw [if_neg (by omega), if_pos rfl]
end Go.Proofs.YtjkjlbchbbpmaaaGreatDoor
