/- Bytes behind a row of bytes of one's own, made by a conversion too. -/
import Derived.Test.YtebhiplcoioenaaGreatDoorZDG
namespace Go.Proofs.YtebhiplcoioenaaGreatDoor
open Go.RowKit

theorem no_frost {w : World} {g : Nat} {cur : Array Value} {t : TypeId} {fz : Nat × Nat} (hg : w.heap[g]? = some (.cells cur t fz)) (hf : fz.2 = 0 ∨ cur.size ≤ fz.1) (j : Nat) (hj : j < cur.size) : w.frozen? ⟨g, j, none⟩ = false := by
  obtain ⟨lo, up⟩ := fz
  simp only at hf
  simp only [World.frozen?, hg, Bool.and_eq_false_iff, decide_eq_false_iff_not]
  omega
theorem run_storeCells_fz {P : Program} (g o : Nat) (t : TypeId) (fz : Nat × Nat) : ∀ (vs : List Value) (i : Nat) (cur : Array Value) (w : World), w.heap[g]? = some (.cells cur t fz) → (fz.2 = 0 ∨ cur.size ≤ fz.1) → o + i + vs.length ≤ cur.size → (∀ v ∈ vs, v.oneCell' = true) →
    (storeCells ⟨g, o, none⟩ vs i).run P w = .ok () (w.setRow g (cur.toList.take (o + i) ++ vs ++ cur.toList.drop (o + i + vs.length)).toArray)
  | [], i, cur, w, hg, _, _, _ => by
    simp only [storeCells, List.append_nil, List.length_nil, Nat.add_zero, List.take_append_drop, Array.toArray_toList]
    rw [setRow_self w g cur t fz hg]
    rfl
  | v :: rest, i, cur, w, hg, hf, hl, h1 => by
    have hi : o + i < cur.size := by simp at hl; omega
    have hadd : (⟨g, o, none⟩ : Addr).add i = ⟨g, o + i, none⟩ := by unfold Addr.add; split <;> simp_all
    have hcell : w.cell? ⟨g, o + i, none⟩ = some cur[o + i] := by simp [World.cell?, hg, hi]
    have hfro : w.frozen? ⟨g, o + i, none⟩ = false := no_frost hg hf _ hi
    have hst : (store ((⟨g, o, none⟩ : Addr).add i) v).run P w = .ok () (w.setRow g (cur.setIfInBounds (o + i) v)) := by
      rw [hadd, run_store P w _ v _ (h1 v (by simp)), hcell]
      simp [hfro, setCell_eq_setRow w g (o + i) cur t fz v hg]
    have ih := run_storeCells_fz (P := P) g o t fz rest (i + 1) (cur.setIfInBounds (o + i) v) (w.setRow g (cur.setIfInBounds (o + i) v)) (setRow_heap w g cur _ t _ hg) (by simpa using hf) (by simp at hl ⊢; omega) (fun x hx => h1 x (by simp [hx]))
    simp only [storeCells, Sem.run_bind, hst, Result.andThen_ok, ih, setRow_setRow]
    congr 3
    have e := list_seg_step cur.toList (o + i) v rest (by simp at hl ⊢; omega)
    simpa [Array.toList_setIfInBounds, Nat.add_assoc] using e
theorem byC_len (l : List UInt8) : (ByC l).length = l.length := by unfold ByC; rw [List.length_map]
theorem rowM_take {w : World} {B g cap : Nat} {l : List UInt8} (h : RowM w B g cap l) : ∃ cur fz, B ≤ g ∧ w.heap[g]? = some (.cells cur 5 fz) ∧ (fz.2 = 0 ∨ cur.size ≤ fz.1) ∧ l.length ≤ cap ∧ cap ≤ maxLen ∧ cur.size = cap ∧ cur.toList.take l.length = ByC l := by
  obtain ⟨cur, fz, h1, h2, h3, h4, h5, h6, h7⟩ := h
  refine ⟨cur, fz, h1, h2, h3, h4, h5, h6, ?_⟩
  refine List.ext_getElem? fun j => ?_
  unfold ByC
  rw [List.getElem?_take, List.getElem?_map]
  split
  · next hj =>
    obtain ⟨x, hx⟩ : ∃ x, l[j]? = some x := ⟨l[j], List.getElem?_eq_getElem hj⟩
    rw [hx]
    have := h7 j x hx
    simpa using this
  · next hj => rw [List.getElem?_eq_none (by omega)]; rfl
theorem rowM_of_take {w : World} {B g cap : Nat} {l : List UInt8} {cur : Array Value} {fz : Nat × Nat} (h1 : B ≤ g) (h2 : w.heap[g]? = some (.cells cur 5 fz)) (h3 : fz.2 = 0 ∨ cur.size ≤ fz.1) (h4 : l.length ≤ cap) (h5 : cap ≤ maxLen) (h6 : cur.size = cap) (h7 : cur.toList.take l.length = ByC l) : RowM w B g cap l := by
  refine ⟨cur, fz, h1, h2, h3, h4, h5, h6, fun j x hj => ?_⟩
  have hl : j < l.length := (List.getElem?_eq_some_iff.1 hj).1
  have e : (cur.toList.take l.length)[j]? = (ByC l)[j]? := by rw [h7]
  unfold ByC at e
  rw [List.getElem?_take, if_pos hl, List.getElem?_map, hj] at e
  simpa using e
theorem own_rowM {w : World} {B g cap : Nat} {l : List UInt8} (h : OwnB B w (.slice (some ⟨g, 0, none⟩) l.length cap) l) : RowM w B g cap l := by
  obtain ⟨hl, ⟨h0, _⟩ | ⟨g1, cap1, cur, hv, hg, hh, hn, hcm, hcs, htk⟩⟩ := h
  · cases h0
  · simp only [Value.slice.injEq, Option.some.injEq, Addr.mk.injEq, and_true, true_and] at hv
    obtain ⟨rfl, rfl⟩ := hv
    exact rowM_of_take hg hh (Or.inl rfl) hn hcm (by omega) (by rw [Nat.mul_one] at htk; exact htk)
/-- A text's bytes behind it. -/
theorem run_app_row {w : World} {B g cap : Nat} {l : List UInt8} (h : RowM w B g cap l) (m : List UInt8) (ty : TypeId) (hB : B ≤ w.heap.size) (hk : l.length + m.length ≤ 140737488355328) :
    ∃ g' cap' w', (Builtin.append_ #[68, 9] ty #[.slice (some ⟨g, 0, none⟩) l.length cap, .string (bs m)]).run Tryz.prog w = .ok (.slice (some ⟨g', 0, none⟩) (l ++ m).length cap') w' ∧ RowM w' B g' cap' (l ++ m) ∧ w.grownBy w' (some g) := by
  have hmx : maxLen = 9223372036854775807 := rfl
  have hRow := h
  obtain ⟨cur, fz, h1, h2, h3, h4, h5, h6, h7⟩ := rowM_take h
  obtain ⟨i0, hi, hz0, hz1, hz2⟩ := info_parts info_u8
  have hms := bs_size m
  have hsc : Lib.strCells (bs m) = ByC m := by unfold Lib.strCells ByC; rw [bs_data]
  have hlen : (l ++ m).length = l.length + m.length := List.length_append
  have hby : ByC (l ++ m) = ByC l ++ ByC m := by unfold ByC; rw [List.map_append]
  by_cases hroom : l.length + m.length ≤ cap
  · have hf := Lib.run_firstCells_string (P := Tryz.prog) w 1 (bs m)
    have hst := run_storeCells_fz (P := Tryz.prog) g l.length 5 fz (ByC m) 0 cur w h2 h3 (by rw [byC_len]; omega) (by intro v hv; unfold ByC at hv; obtain ⟨x, _, rfl⟩ := List.mem_map.1 hv; rfl)
    simp only [Nat.add_zero] at hst
    rw [hms, hsc] at hf
    refine ⟨g, cap, w.setRow g (cur.toList.take l.length ++ ByC m ++ cur.toList.drop (l.length + (ByC m).length)).toArray, ?_, ?_, ?_⟩
    · rw [hlen]
      simp [Builtin.append_, run_underlying Tryz.underlying68, run_underlying Tryz.underlying9, sizeOf, typeInfo, hi, hz1, Builtin.lenOf, hms, hroom, hf, Addr.add_lit]
      rw [hst]
      simp
    · refine rowM_of_take (fz := fz) h1 (setRow_heap w g cur _ _ fz h2) ?_ (by omega) h5 ?_ ?_
      · refine h3.imp id fun h => ?_
        simp only [List.size_toArray, List.length_append, List.length_take, List.length_drop, Array.length_toList, byC_len]; omega
      · simp only [List.size_toArray, List.length_append, List.length_take, List.length_drop, Array.length_toList, byC_len]; omega
      · rw [h7, hlen, hby]
        have : (ByC l ++ ByC m).length = l.length + m.length := by rw [List.length_append, byC_len, byC_len]
        rw [← this]
        exact List.take_left
    · exact ⟨rfl, rfl, rfl, by simp, fun k _ hk => setRow_other w g k _ (fun e => hk (by rw [e]))⟩
  · have holds : ∀ j v, (ByC l)[j]? = some v → w.cell? ((⟨g, 0, none⟩ : Addr).add j) = some v := fun j v hj => by
      unfold ByC at hj
      rw [List.getElem?_map] at hj
      cases hx : l[j]? with
      | none => rw [hx] at hj; cases hj
      | some x =>
        rw [hx] at hj
        cases hj
        rw [Addr.add_lit, Nat.zero_add]
        exact hRow.cell hx
    have hnx := growslice_fits (need := l.length + m.length) (old := cap) (bytes := i0.bytes) (by omega) (by rw [hz2]; omega)
    have hge := grownCap_ge w (l.length + m.length) cap 5
    have hr := Lib.run_append_grow_string (P := Tryz.prog) w 68 9 ty 5 i0 (.int .u8 0) Tryz.underlying68 Tryz.underlying9 hi hz0 ⟨g, 0, none⟩ l.length cap (ByC l) (by rw [byC_len, hz1]; omega) holds (bs m) (by omega) (by omega) (by rw [hms]; exact hnx)
    rw [hms, hsc] at hr
    refine ⟨w.heap.size, grownCap w (l.length + m.length) cap 5, w.drew.alloc (Obj.cells ((ByC l).toArray ++ (ByC m).toArray ++ Builtin.zeroCells (Value.int IntKind.u8 0).cells (grownCap w (l.length + m.length) cap 5 - (l.length + m.length))) 5), by rw [hlen]; exact hr, ?_, ⟨rfl, rfl, rfl, by simp, fun k hk _ => heap_alloc_old w.drew _ hk⟩⟩
    refine rowM_of_take (fz := (0, 0)) hB (heap_alloc_new w.drew _) (Or.inl rfl) (by omega) (grownCap_le_maxLen w _ _ _ (by omega)) ?_ ?_
    · simp only [Array.size_append, List.size_toArray, size_zeroCells, byC_len]
      show l.length + m.length + _ * 1 = _
      omega
    · simp only [Array.toList_append, List.append_assoc]
      rw [hlen, hby, ← List.append_assoc]
      have : (ByC l ++ ByC m).length = l.length + m.length := by rw [List.length_append, byC_len, byC_len]
      rw [← this]
      exact List.take_left
theorem wp_appR {w w1 : World} {B g cap : Nat} {ops : Array Oper} {rest : List Oper} {o : Oper} {a : Act} {Q : Exit → Act → World → Prop} (hgd : o.guard = none) (s x : Operand) (ho : o.op = .call { callee := .builtin .append, args := #[s, x], argTypes := #[68, 9] })
    {l : List UInt8} (c : List UInt8) (hsv : a.eval s = .slice (some ⟨g, 0, none⟩) l.length cap) (hxv : a.eval x = .string (bs c)) (hO : RowM w1 B g cap l) (hB : B ≤ w.heap.size) (hb : Below B w w1) (hk : l.length + c.length ≤ 140737488355328)
    (h : ∀ g' cap' w2, RowM w2 B g' cap' (l ++ c) → Below B w w2 → w1.grownBy w2 (some g) → wpList Tryz.prog ops Q rest (a.put o.dst (.slice (some ⟨g', 0, none⟩) (l ++ c).length cap')) w2) : wpList Tryz.prog ops Q (o :: rest) a w1 := by
  have hbs := hb.size
  obtain ⟨g', cap', w', hr, hrow, hgr⟩ := run_app_row hO c o.type (by omega) hk
  refine wpList_plain hgd fun K hK => ?_
  unfold Oper.wp
  simp only [execOp, ho, resolve, invoke, builtin, Sem.run_bind, Sem.run_pure, Result.andThen_ok, List.map_toArray, List.map_cons, List.map_nil, hsv, hxv, hr]
  exact hK _ _ (h g' cap' w' hrow (hb.grown hgr (by omega) (fun q hq => by cases hq; exact hO.ge)) hgr)
/-- Likewise, the whole being named. -/
theorem wp_appT {w w1 : World} {B g cap : Nat} {ops : Array Oper} {rest : List Oper} {o : Oper} {a : Act} {Q : Exit → Act → World → Prop} (hgd : o.guard = none) (s x : Operand) (ho : o.op = .call { callee := .builtin .append, args := #[s, x], argTypes := #[68, 9] })
    {l : List UInt8} (c : List UInt8) (hsv : a.eval s = .slice (some ⟨g, 0, none⟩) l.length cap) (hxv : a.eval x = .string (bs c)) (hO : RowM w1 B g cap l) (hB : B ≤ w.heap.size) (hb : Below B w w1) (hk : l.length + c.length ≤ 140737488355328)
    (h : ∀ (T : List UInt8) g' cap' w2, T = l ++ c → RowM w2 B g' cap' T → Below B w w2 → w1.grownBy w2 (some g) → wpList Tryz.prog ops Q rest (a.put o.dst (.slice (some ⟨g', 0, none⟩) T.length cap')) w2) : wpList Tryz.prog ops Q (o :: rest) a w1 :=
  wp_appR hgd s x ho c hsv hxv hO hB hb hk (fun g' cap' w2 h1 h2 h3 => h _ g' cap' w2 rfl h1 h2 h3)
end Go.Proofs.YtebhiplcoioenaaGreatDoor
