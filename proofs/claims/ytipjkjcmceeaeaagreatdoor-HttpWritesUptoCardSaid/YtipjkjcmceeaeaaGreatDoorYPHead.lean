/- strings.Builder's copyCheck and WriteString at this program (the refused copy is never come to): what lies beside stays. http.head: the walk. -/
import Derived.Test.YtipjkjcmceeaeaaGreatDoorYOwn
import Derived.Lib.Builder
import Derived.Lib.AppendStr
import Derived.Test.YtipjkjcmceeaeaaGreatDoorShelf
import Derived.Test.YtipjkjcmceeaeaaGreatDoorYRHead
import Derived.Test.YtipjkjcmceeaeaaGreatDoorYReadK
namespace Go.Proofs.YtipjkjcmceeaeaaGreatDoor
open Go.RowKit

set_option maxHeartbeats 1000000 in
set_option maxRecDepth 100000 in
theorem bcheck_used (b : Nat) (w : World) (h0 : w.cell? ⟨b, 0, none⟩ = some (.pointer (some ⟨b, 0, none⟩))) :
    Calls Tryz.prog 95 #[.pointer (some ⟨b, 0, none⟩)] w fun e w' => e = .returned (.tuple #[]) ∧ w' = w := by
  obtain ⟨j, hj, _⟩ := Option.map_eq_some_iff.1 Tryz.Builder_Extra_169.toX72.sizeBuilder
  go_enter Tryz.func95, Tryz.ntmps95
  go_wp2
  rw [Lib.run_neq_ptr_same w _ (show Tryz.prog.underlying 93 = some (.pointer 95) from Tryz.lays169.t70) hj]
  go_wp2
  go_end0
  exact ⟨rfl, rfl⟩

set_option maxHeartbeats 1000000 in
set_option maxRecDepth 100000 in
theorem bcheck_fresh (b : Nat) (w : World) (h0 : w.cell? ⟨b, 0, none⟩ = some (.pointer none)) (hsh : w.shape? b = some (95, 2)) (hfz : w.frozen? ⟨b, 0, none⟩ = false) :
    Calls Tryz.prog 95 #[.pointer (some ⟨b, 0, none⟩)] w fun e w' => e = .returned (.tuple #[]) ∧ w' = w.setCell ⟨b, 0, none⟩ (.pointer (some ⟨b, 0, none⟩)) := by
  have X := Tryz.Builder_Extra_169.toX72
  obtain ⟨j, hj, hjs⟩ := Option.map_eq_some_iff.1 X.sizeBuilder
  go_enter Tryz.func95, Tryz.ntmps95
  go_wp2
  rw [Lib.run_to_unsafe w ⟨b, 0, none⟩ (show Tryz.prog.underlying 93 = some (.pointer 95) from Tryz.lays169.t70) Tryz.underlying131 hj (by rw [hjs]; decide) hsh (Nat.zero_lt_succ 1)]
  simp only [Result.andThen]
  rw [Oper.upon_value]
  go_wp2
  rw [run_callFunc_extern Tryz.func109 (by kernel_rfl) (by kernel_rfl) (by kernel_rfl) (e := Extern.AbiNoEscape.same) (by kernel_rfl)]
  rw [Lib.run_noEscape]
  simp only [Result.andThen]
  rw [Oper.upon_value]
  go_wp2
  rw [Lib.run_from_unsafe w ⟨b, 0, none⟩ Tryz.underlying131 (show Tryz.prog.underlying 93 = some (.pointer 95) from Tryz.lays169.t70) hj hsh X.liesBuilder]
  simp only [Result.andThen]
  rw [Oper.upon_value]
  go_wp2
  go_end0
  exact ⟨rfl, rfl⟩

/-- Blocks that are neither bytes nor builders stay. -/
def Fr (w w' : World) : Prop := ∀ (k : Nat) cs t fz, w.heap[k]? = some (.cells cs t fz) → t ≠ 5 → t ≠ 95 → w'.heap[k]? = some (.cells cs t fz)
theorem Fr.refl (w : World) : Fr w w := fun _ _ _ _ h _ _ => h
theorem Fr.trans {w w1 w2 : World} (h : Fr w w1) (h2 : Fr w1 w2) : Fr w w2 := fun k cs t fz e h1 h3 => h2 k cs t fz (h k cs t fz e h1 h3) h1 h3
theorem Fr.setCell {w : World} {b i : Nat} {v : Value} {cs : Array Value} {fz : Nat × Nat} (h : w.heap[b]? = some (.cells cs 95 fz)) : Fr w (w.setCell ⟨b, i, none⟩ v) := fun k cs' t fz' e _ h2 => by
  have hne : k ≠ b := by
    rintro rfl
    rw [h] at e
    simp only [Option.some.injEq, Obj.cells.injEq] at e
    exact h2 e.2.1.symm
  exact (heap_setCell_other w ⟨b, i, none⟩ k v hne).trans e
abbrev BldI (B b : Nat) (l : Bs) (w : World) : Prop := Lib.IsBuilder 95 5 B b (ByC l) w
theorem bcheck_any (B b : Nat) (l : List Value) (w : World) (h : Lib.IsBuilder 95 5 B b l w) :
    Calls Tryz.prog 95 #[.pointer (some ⟨b, 0, none⟩)] w fun e w' => e = .returned (.tuple #[]) ∧ Lib.BuilderAt 95 5 B b (.pointer (some ⟨b, 0, none⟩)) l w' ∧ Below B w w' ∧ Fr w w' := by
  rcases h with h | h
  · refine (bcheck_fresh b w h.cell0 h.shape h.frozen0).mono ?_
    rintro e w' ⟨rfl, rfl⟩
    obtain ⟨hB, v, hbk, _⟩ := id h
    exact ⟨rfl, h.used _, (Below.refl B w).setCell (p := ⟨b, 0, none⟩) h.1 _, Fr.setCell hbk⟩
  · refine (bcheck_used b w h.cell0).mono ?_
    rintro e w' ⟨rfl, rfl⟩
    exact ⟨rfl, h, Below.refl B _, Fr.refl _⟩
set_option maxHeartbeats 2000000 in
set_option maxRecDepth 100000 in
/-- A text behind a builder's bytes. -/
theorem bwrite_any (B b : Nat) (l s : Bs) (w : World) (h : BldI B b l w) (hlen : l.length + s.length ≤ 140737488355328) (hBw : B ≤ w.heap.size) :
    Calls Tryz.prog 70 #[.pointer (some ⟨b, 0, none⟩), .string (bs s)] w fun e w' => (∃ v, e = .returned v) ∧ BldI B b (l ++ s) w' ∧ Below B w w' ∧ Fr w w' := by
  have X := Tryz.Builder_Extra_169
  obtain ⟨i0, hi, hz0, hz1, hz2⟩ := info_parts X.infoByte
  have hll : (ByC l).length = l.length := by unfold ByC; rw [List.length_map]
  have hss := bs_size s
  have hsc : Lib.strCells (bs s) = ByC s := by unfold Lib.strCells ByC; rw [bs_data]
  have hap : ByC (l ++ s) = ByC l ++ ByC s := by unfold ByC; rw [List.map_append]
  go_enter Tryz.func70, Tryz.ntmps70
  go_wp2_with (go_at_call 95; refine (bcheck_any B b _ _ h).mono ?_)
  rintro e w1 ⟨rfl, h1, hb1, hf1⟩
  obtain ⟨hB, v, hbk, hown, hne⟩ := h1
  have c0 : w1.cell? ⟨b, 0, none⟩ = some (.pointer (some ⟨b, 0, none⟩)) := by rw [Lib.cell_of_heap hbk]; rfl
  have c1 : w1.cell? ⟨b, 1, none⟩ = some v := by rw [Lib.cell_of_heap hbk]; rfl
  go_wp2_with (at_builtin; refine Lib.wpList_append_own_string _ rfl _ _ 44 9 rfl B 5 i0 Tryz.underlying44 Tryz.underlying9 hi hz0 hz1 hz2 _ _ _ rfl hown (bs s) rfl ?c3 ?c4 ?c5 ?_)
  case c3 => unfold maxLen; omega
  case c4 => omega
  case c5 => have := hb1.size; omega
  intro v' w2 hown' hgrow _
  have hlt : b < w1.heap.size := by
    rcases Nat.lt_or_ge b w1.heap.size with h' | h'
    · exact h'
    · simp [Array.getElem?_eq_none h'] at hbk
  have hb2 : w2.heap[b]? = some (.cells #[.pointer (some ⟨b, 0, none⟩), v] 95 (0, 0)) := by
    rw [hgrow.block b hlt (fun e => hne e.symm)]
    exact hbk
  have hf2 : Fr w1 w2 := fun k cs t fz e n1 _ => by
    have hkl : k < w1.heap.size := (Array.getElem?_eq_some_iff.1 e).1
    refine (hgrow.block k hkl (fun eq => ?_)).trans e
    obtain ⟨_, ⟨rfl, _⟩ | ⟨g, cap, cur, rfl, _, hh, _⟩⟩ := hown
    · simp [Value.ownBlock] at eq
    · have hgk : k = g := by simpa [Value.ownBlock] using eq
      rw [hgk, hh] at e
      simp only [Option.some.injEq, Obj.cells.injEq] at e
      exact n1 e.2.1.symm
  have d0 : w2.cell? ⟨b, 0, none⟩ = some (.pointer (some ⟨b, 0, none⟩)) := by rw [Lib.cell_of_heap hb2]; rfl
  have d1 : w2.cell? ⟨b, 1, none⟩ = some v := by rw [Lib.cell_of_heap hb2]; rfl
  have f1 : w2.frozen? ⟨b, 1, none⟩ = false := Lib.frozen_of_heap hb2 1
  obtain ⟨ao, n', cap, rfl⟩ : ∃ ao n' cap, v' = .slice ao n' cap := by
    rcases hown'.2 with ⟨hv, _⟩ | ⟨g, cap, cur, hv, _⟩
    · exact ⟨_, _, _, hv⟩
    · exact ⟨_, _, _, hv⟩
  go_wp2
  go_ret2
  refine ⟨⟨_, rfl⟩, Or.inr ?_, ?_, ?_⟩
  · rw [hap, ← hsc]
    exact Lib.BuilderAt.put (T := 95) (e := 5) hB hb2 (bs' := ByC l ++ Lib.strCells (bs s)) (by rw [hsc, List.length_append, hll, show (ByC s).length = s.length by unfold ByC; rw [List.length_map]]; exact hown') X.neB5
  · exact (hb1.grown hgrow (by have := hb1.size; omega) (fun k hk => (hown.lt k hk).1)).setCell (p := ⟨b, 1, none⟩) hB _
  · exact (hf1.trans hf2).trans (Fr.setCell hb2)
/-- Rows that are neither bytes nor builders stay. -/
theorem Rws.fr {B : Nat} {w0 w w' : World} {L : List (Nat × Array Value × TypeId)} (h : Rws B w0 w L) (hb : Below B w w') (hf : Fr w w') (ht : L.all (fun x => decide (x.2.2 ≠ 5) && decide (x.2.2 ≠ 95)) = true) : Rws B w0 w' L :=
  ⟨h.below.trans hb, Nat.le_trans h.len hb.size, fun x hx => ⟨(h.row x hx).1, by
    have h1 := List.all_eq_true.1 ht x hx
    rw [Bool.and_eq_true] at h1
    exact hf _ _ _ _ (h.row x hx).2 (of_decide_eq_true h1.1) (of_decide_eq_true h1.2)⟩, h.nd⟩
/-- A builder stays where its blocks stay. -/
theorem bld_old {w w' : World} {B b : Nat} {l : Bs} (hb : BldI B b l w) (h : ∀ k, B ≤ k → k < w.heap.size → w'.heap[k]? = w.heap[k]?) : BldI B b l w' := by
  have key : ∀ p, Lib.BuilderAt 95 5 B b p (ByC l) w → Lib.BuilderAt 95 5 B b p (ByC l) w' := fun p hp => by
    obtain ⟨hB, v, hbk, hown, hne⟩ := hp
    refine ⟨hB, v, (h b hB (Array.getElem?_eq_some_iff.1 hbk).1).trans hbk, ?_, hne⟩
    obtain ⟨h1, h2⟩ := hown
    refine ⟨h1, ?_⟩
    rcases h2 with h2 | ⟨g, cap, cur, hv, hg, hh, r⟩
    · exact Or.inl h2
    · exact Or.inr ⟨g, cap, cur, hv, hg, (h g hg (Array.getElem?_eq_some_iff.1 hh).1).trans hh, r⟩
  exact hb.imp (key _) (key _)
theorem bld_lt {w : World} {B b : Nat} {l : Bs} (hb : BldI B b l w) : b < w.heap.size := by
  rcases hb with h | h
  · exact h.lt
  · exact h.lt
theorem bld_new (w : World) : BldI w.heap.size w.heap.size [] (w.alloc (.cells #[.pointer none, .slice none 0 0] 95)) := Lib.fresh_isBuilder _ _ w
theorem bstring_any (B b : Nat) (l : Bs) (w : World) (h : BldI B b l w) (h0 : l ≠ []) : Calls Tryz.prog 72 #[.pointer (some ⟨b, 0, none⟩)] w fun e w' => e = .returned (.string (bs l)) ∧ Below B w w' :=
  Tryz.Builder_String B b l w h h0

theorem eq_nilH (ad : Option Addr) (n c : Nat) (w : World) : (binOp BinOp.eql 22 (.slice ad n c) (.slice none 0 0)).run Tryz.prog w = .ok (.bool ad.isNone) w := Lib.run_eql_slice_nil w _ _ ad n c 0 0 Tryz.underlying22
theorem hdC_len (hs : List Hd) : (HdC hs).length = hs.length * 2 := by
  unfold HdC
  induction hs with
  | nil => rfl
  | cons h r ih => rw [List.flatMap_cons, List.length_append, ih, List.length_cons]; simp only [List.length_cons, List.length_nil]; omega
theorem hdC_one (hs : List Hd) : ∀ u ∈ HdC hs, u.oneCell' = true := fun u hu => by
  unfold HdC at hu
  obtain ⟨h, _, hh⟩ := List.mem_flatMap.1 hu
  simp only [List.mem_cons, List.not_mem_nil, or_false] at hh
  rcases hh with rfl | rfl <;> rfl
set_option maxRecDepth 100000 in
set_option maxHeartbeats 2000000 in
theorem clone_any (hs : List Hd) (ad : Option Addr) (c : Nat) (w : World) (hS : SlH w hs ad c) (hk : hs.length ≤ 1048576) : Calls Tryz.prog 71 #[.slice ad hs.length c] w fun e w' => ∃ v, e = .returned v ∧ OwnH w.heap.size w' v hs ∧ Below w.heap.size w w' := by
  obtain ⟨hle, hcm, b, f, had, hrow⟩ := hS
  obtain ⟨i0, hi, hz0, hz1, hz2⟩ := info_parts info_hd
  have hq := eq_nilH ad hs.length c
  have HROW := Lib.hid hrow
  clear hrow
  cases ad with
  | none =>
    have h0 : hs = [] := by rcases had with h | ⟨_, h⟩; cases h; exact List.eq_nil_of_length_eq_zero h
    subst h0
    have hq2 : ∀ w, (binOp BinOp.eql 22 (.slice none 0 c) (.slice none 0 0)).run Tryz.prog w = .ok (.bool true) w := hq
    clear hq
    go_enter Tryz.func71, Tryz.ntmps71
    go_wp2_with fail
    go_ret
    exact ⟨_, rfl, own_nil _ _ _ _, Below.refl _ _⟩
  | some a =>
    have hq2 : ∀ w, (binOp BinOp.eql 22 (.slice (some a) hs.length c) (.slice none 0 0)).run Tryz.prog w = .ok (.bool false) w := hq
    clear hq
    have hlen := hdC_len hs
    go_enter Tryz.func71, Tryz.ntmps71
    go_wp2_with (at_builtin; refine wpList_append_own _ rfl _ _ 22 rfl w.heap.size 52 i0 _ 2 32 Tryz.underlying22 hi hz0 hz1 hz2 rfl (by decide) _ 0 [] rfl (World.ownsRow_made w #[] 0 (Nat.le_refl _) (Nat.zero_le _) rfl) a hs.length c (HdC hs) rfl ?qc1 ?qc2 ?qc3 ?qc4 ?qc5 ?qc6 ?_)
    case qc2 =>
      intro j u hj
      have hjl := (List.getElem?_eq_some_iff.1 hj).1
      have hne : hs.length ≠ 0 := by omega
      obtain rfl : a = ⟨b, f, none⟩ := by
        rcases had with h | ⟨_, h⟩
        · exact Option.some.inj h
        · exact absurd h hne
      rw [Addr.add_lit]
      exact Lib.cell?_alloc_some _ (HROW.out j u hj)
    case qc3 => exact hdC_one hs
    case qc4 => unfold maxLen; omega
    case qc5 => omega
    intro v' w1 hown hgrow _
    go_wp2_with fail
    go_ret
    refine ⟨v', rfl, by simpa using hown, ?_⟩
    exact ((Below.refl _ w).alloc (Nat.le_refl _) _).grown hgrow (by simp) (by intro k hk; simp [Value.ownBlock] at hk; omega)
theorem LiesT.fr {w w' : World} {hs : List Hd} {ad : Option Addr} (h : LiesT w hs ad) (hf : Fr w w') : LiesT w' hs ad := by
  rcases h with h | ⟨g, cs, h1, h2, h3⟩
  · exact Or.inl h
  · exact Or.inr ⟨g, cs, h1, hf _ _ _ _ h2 (by decide) (by decide), h3⟩
def zB : Array Value := #[.pointer none, .slice none 0 0]
theorem zero_bld (w : World) : (zeroValue 95).run Tryz.prog w = .ok (.agg zB) w := by kernel_rfl
theorem bld_row {B : Nat} {w0 w : World} {L : List (Nat × Array Value × TypeId)} {g : Nat} (h : Rws B w0 w ((g, zB, 95) :: L)) : BldI B g [] w :=
  Or.inl ⟨(h.row _ (List.Mem.head _)).1, .slice none 0 0, (h.row _ (List.Mem.head _)).2, World.ownsRow_nil _ _ _ _, by simp [Value.ownBlock]⟩
theorem lines_app (a b : List Hd) : linesS (a ++ b) = linesS a ++ linesS b := by unfold linesS; rw [List.map_append, List.flatten_append]
set_option maxRecDepth 100000 in
set_option maxHeartbeats 8000000 in
theorem head_any (q : Rq) (ad : Option Addr) (c : Nat) (w : World) (hs : SlH w q.hs ad c) (hq : SmallQ q) (hgw : Gw w) : Calls Tryz.prog 40 #[rqv q ad c] w (RetS (bs (headS q)) w) := by
  have hSB := SB_eq
  have hMX := MX_eq
  have HS := Lib.hid hs
  have hql := hq.k
  have hR := Rws.start w
  have hqm := hq.m
  have hqt := hq.t
  have hqb := hq.b
  have hln := hq.ln
  have HGW := Lib.hid hgw
  clear hs hgw
  obtain ⟨F0, hF0⟩ : ∃ F0, F0 = q.m ++ [32] ++ q.t ++ [32, 72, 84, 84, 80, 47, 49, 46, 49] ++ [13, 10] := ⟨_, rfl⟩
  have hF0l : F0.length ≤ 2097164 := by rw [hF0]; simp only [List.length_append, List.length_cons, List.length_nil]; omega
  have hF0n : F0 ≠ [] := by rw [hF0]; simp
  obtain ⟨X1, hX1⟩ : ∃ X1, X1 = q.m ++ [32] := ⟨_, rfl⟩
  obtain ⟨X2, hX2⟩ : ∃ X2, X2 = X1 ++ q.t := ⟨_, rfl⟩
  obtain ⟨X3, hX3⟩ : ∃ X3, X3 = X2 ++ [32, 72, 84, 84, 80, 47, 49, 46, 49] := ⟨_, rfl⟩
  have a1 : bs q.m ++ ⟨#[32]⟩ = bs X1 := by rw [hX1]; exact bs_app2 q.m [32]
  have a2 : bs X1 ++ bs q.t = bs X2 := by rw [hX2]; exact bs_app2 _ _
  have a3 : bs X2 ++ ⟨#[32, 72, 84, 84, 80, 47, 49, 46, 49]⟩ = bs X3 := by rw [hX3]; exact bs_app2 _ [32, 72, 84, 84, 80, 47, 49, 46, 49]
  have a4 : bs X3 ++ ⟨#[13, 10]⟩ = bs F0 := by rw [hF0, hX3, hX2, hX1]; exact bs_app2 _ [13, 10]
  have z1 := bs_size q.m
  have z2 := bs_size q.t
  have z3 : (bs X1).size = q.m.length + 1 := by rw [bs_size, hX1, List.length_append]; rfl
  have z4 : (bs X2).size = q.m.length + 1 + q.t.length := by rw [bs_size, hX2, hX1, List.length_append, List.length_append]; rfl
  have z5 : (bs X3).size = q.m.length + 1 + q.t.length + 9 := by rw [bs_size, hX3, hX2, hX1, List.length_append, List.length_append, List.length_append]; rfl
  clear hX1 hX2 hX3
  have HF0 := Lib.hid hF0
  clear hF0
  go_enter Tryz.func40, Tryz.ntmps40
  go_upto_region 2 with (first
    | (refine wpList_box_rws rfl _ _ (by rfl) (by exact hR) (rqC q ad c) rfl ?_; intro gb w1 hR)
    | (refine wQ_alloc (cs := zB) rfl _ (by rfl) (by exact hR) zero_bld ?_; intro gB w2 hR hb2 hg2))
  have HB2 := Lib.hid (bld_row hR)
  have hR := hR.sub (List.Sublist.cons _ (List.Sublist.refl _))
  clear hb2 hg2
  have f0 : w2.cell? ⟨gb, 0, none⟩ = some (.string (bs q.m)) := hR.cellAt (g := gb) (List.Mem.head _) 0 rfl
  have f1 : w2.cell? ⟨gb, 1, none⟩ = some (.string (bs q.t)) := hR.cellAt (g := gb) (List.Mem.head _) 1 rfl
  go_upto_region 3 with (go_at_call 70; refine (bwrite_any w.heap.size gB [] F0 _ HB2.out (by show 0 + F0.length ≤ _; omega) hR.len).mono ?_; rintro e w3 ⟨⟨v3, rfl⟩, hB3, hb3, hf3⟩; have hR := hR.fr hb3 hf3 (by rfl))
  rw [List.nil_append] at hB3
  have HB3 := Lib.hid hB3
  have HR3 := Lib.hid hR
  clear a1 a2 a3 a4 z3 z4 z5 f0 f1 hB3 hb3 hf3
  have f2 : w3.cell? ⟨gb, 2, none⟩ = some (.slice ad q.hs.length c) := hR.cellAt (g := gb) (List.Mem.head _) 2 rfl
  go_upto_region 4 with (go_at_call 71; refine (clone_any q.hs ad c _ (HS.out.grown hR.below) hql).mono ?_; rintro e w4 ⟨v4, rfl, hO4, hb4⟩; have hR := hR.call hb4)
  obtain ⟨ad4, c4, rfl, _⟩ := slc_of_own hO4
  obtain ⟨hs2, hhs2⟩ : ∃ hs2, hs2 = q.hs ++ (if q.b = [] then [] else [(wCl, numS q.b.length)]) := ⟨_, rfl⟩
  have HH : Hid (headS q = F0 ++ linesS hs2 ++ [13, 10]) := Lib.hid (by
    rw [hhs2, lines_app, HF0.out]
    unfold headS
    by_cases hb : q.b = []
    · rw [if_pos hb, if_pos hb]; simp [linesS, wHttp, CRLF, List.append_assoc]
    · rw [if_neg hb, if_neg hb]; simp [linesS, lineS, wHttp, CRLF, List.append_assoc])
  have hl2 : (linesS hs2).length ≤ 8388608 + 64 := by
    rw [hhs2, lines_app, List.length_append]
    by_cases hb : q.b = []
    · rw [if_pos hb]; show _ + 0 ≤ _; omega
    · rw [if_neg hb]
      have := (num_len (n := q.b.length) (by omega)).2
      have h3 : (linesS [(wCl, numS q.b.length)]).length = 14 + 2 + (numS q.b.length).length + 2 := by simp [linesS, lineS, CRLF, wCl]; omega
      rw [h3]; omega
  have hk2 : hs2.length ≤ 1048577 := by
    rw [hhs2, List.length_append]
    by_cases hb : q.b = []
    · rw [if_pos hb]; simp; omega
    · rw [if_neg hb]; simp; omega
  have hm2 : ∀ x, x ∈ hs2 → x.1.length ≤ 1048576 ∧ x.2.length ≤ 1048576 := by
    rw [hhs2]
    intro x hx
    rcases List.mem_append.1 hx with h | h
    · exact hq.h x h
    · by_cases hb : q.b = []
      · rw [if_pos hb] at h; cases h
      · rw [if_neg hb] at h
        obtain rfl := List.mem_singleton.1 h
        have := (num_len (n := q.b.length) (by omega)).2
        exact ⟨show wCl.length ≤ _ by decide, by show (numS q.b.length).length ≤ _; omega⟩
  have HHS := Lib.hid hhs2
  have HM2 := Lib.hid hm2
  have HO4 := Lib.hid hO4
  have HB4 := Lib.hid hb4
  have zb := bs_size q.b
  clear hhs2 hm2 hO4 hb4 f2 HF0 HB2
  have f3 : w4.cell? ⟨gb, 3, none⟩ = some (.string (bs q.b)) := hR.cellAt (g := gb) (List.Mem.head _) 3 rfl
  obtain ⟨e0, he0⟩ : ∃ e0 : Bool, ((bs q.b).toList == []) = e0 := ⟨_, rfl⟩
  have HE0 := Lib.hid he0
  go_upto_if 21 with fail
  clear he0
  go_cut [4] (fun s4 wx => ∃ (ad2 : Option Addr) (c2 : Nat), s4 = .slice ad2 hs2.length c2 ∧ Aside (OwnH w3.heap.size wx (.slice ad2 hs2.length c2) hs2) ∧ Aside (Below w3.heap.size w3 wx))
  case first =>
    by_cases hbe : q.b = []
    · obtain rfl : e0 = true := by rw [← HE0.out, bs_list, hbe]; rfl
      have hh2 : hs2 = q.hs := by rw [HHS.out, if_pos hbe, List.append_nil]
      have HH2 := Lib.hid hh2
      clear hbe hh2
      go_wp2_with fail
      go_meet
      refine ⟨ad4, c4, by rw [HH2.out], ?_, HB4.out⟩
      rw [HH2.out]; exact HO4.out
    · obtain rfl : e0 = false := by rw [← HE0.out, bs_list]; simpa using hbe
      have HN : Hid (∀ u, Below w.heap.size w u → Calls Tryz.prog 47 #[.int .i64 (q.b.length : Nat)] u (RetS (bs (numS q.b.length)) u)) := Lib.hid fun u hb => itoa_any q.b.length (by omega) u (HGW.out.below hb)
      obtain ⟨N, hN⟩ : ∃ N, N = numS q.b.length := ⟨_, rfl⟩
      rw [← hN] at HN
      have hh2 : hs2 = q.hs ++ [(wCl, N)] := by rw [HHS.out, if_neg hbe, hN]
      have HH2 := Lib.hid hh2
      have hk : q.hs.length + 1 ≤ 3000000 := by omega
      have HL2 : Hid (hs2.length = q.hs.length + 1) := Lib.hid (by rw [hh2, List.length_append]; rfl)
      clear hbe hh2 hN
      go_wp2_with (first
        | (go_at_call 47; refine (HN.out _ hR.below).mono ?_; rintro e w5 ⟨rfl, hb5⟩; have hR := hR.call hb5; have hO5 := own_keep HO4.out hb5; have hbb5 := HB4.out.trans (hb5.mono HB4.out.size))
        | (at_builtin; refine wp_snocH (w := w3) (B := w3.heap.size) rfl _ _ (by rfl) (wCl, N) (by rfl) (by rfl) hO5 (Nat.le_refl _) hbb5 hk ?_; intro v' w6 hO6 hB6; obtain ⟨ad6, c6, rfl, _⟩ := slc_of_own hO6))
      go_meet
      refine ⟨ad6, c6, ?_, ?_, hB6⟩
      · rw [HH2.out, List.length_append]; rfl
      · rw [HH2.out]; exact hO6
  case rest =>
  obtain ⟨ad2, c2, rfl, HO, HBW⟩ := hcut
  have hgb : gb < w3.heap.size := HR3.out.lt (x := (gb, _, _)) (List.Mem.head _)
  have hR2 := Rws.low HR3.out (B := w3.heap.size) (fun y hy => by obtain rfl := List.mem_singleton.1 hy; exact hgb) HR3.out.len HBW.out
  have HR2 := Lib.hid hR2
  have HBX := Lib.hid (bld_old HB3.out (fun k _ hlt => HBW.out.block k hlt))
  have HLX := Lib.hid (lies_of_own HO.out)
  have hc2 : hs2.length ≤ c2 ∧ c2 ≤ MX := by
    obtain ⟨ad', c', hv, h1, h2, _⟩ := slc_of_own HO.out
    simp only [Value.slice.injEq] at hv
    rw [hv.2.2]; exact ⟨h1, h2⟩
  clear f3 hR hR2 HR3 HB3 HBW HO HO4 HB4 HHS HGW hgb
  go_upto_region 7 with fail
  go_loopg [32] hs2.length (fun gg s32 wr => ∃ (i : Nat) (acc : Bs), i ≤ hs2.length ∧ gg = hs2.length - i ∧ s32 = .int .i64 (i : Nat) ∧ Aside (acc = F0 ++ linesS (hs2.take i)) ∧ Aside (BldI w.heap.size gB acc wr) ∧ Aside (LiesT wr hs2 ad2) ∧ Aside (Rws w.heap.size w wr [(gb, rqC q ad c, 24)]))
  case atStart => exact ⟨0, F0, Nat.zero_le _, rfl, rfl, by show F0 = F0 ++ []; rw [List.append_nil], HBX.out, HLX.out, HR2.out⟩
  case round =>
    obtain ⟨i, acc, hil, rfl, rfl, HA, HB, HL, HRR⟩ := hrel
    have hR := HRR.out
    have hal : acc.length ≤ 10485836 := by
      rw [HA.out, List.length_append]
      have := lines_le hs2 i
      omega
    by_cases hlt : i < hs2.length
    · have hltz : (i : Int) < (hs2.length : Int) := by omega
      obtain ⟨h, hh⟩ : ∃ h, hs2[i]? = some h := ⟨hs2[i], List.getElem?_eq_getElem hlt⟩
      obtain ⟨gl, rfl, hrow⟩ := HL.out.row (by omega)
      obtain ⟨e0, e1⟩ := hd_cells hrow hh
      rw [Nat.zero_add] at e0 e1
      have hsm := HM2.out h (List.mem_of_getElem? hh)
      obtain ⟨L1, hL1⟩ : ∃ L1, L1 = h.1 ++ [58, 32] := ⟨_, rfl⟩
      obtain ⟨L2, hL2⟩ : ∃ L2, L2 = L1 ++ h.2 := ⟨_, rfl⟩
      obtain ⟨L3, hL3⟩ : ∃ L3, L3 = L2 ++ [13, 10] := ⟨_, rfl⟩
      have l1 : L1.length = h.1.length + 2 := by rw [hL1, List.length_append]; rfl
      have l2 : L2.length = L1.length + h.2.length := by rw [hL2, List.length_append]
      have l3 : L3.length = L2.length + 2 := by rw [hL3, List.length_append]; rfl
      have HA2 : Hid (acc ++ L3 = F0 ++ linesS (hs2.take (i + 1))) := Lib.hid (by rw [lines_take hh, HA.out, hL3, hL2, hL1, List.append_assoc])
      have b1 : bs h.1 ++ ⟨#[58, 32]⟩ = bs L1 := by rw [hL1]; exact bs_app2 h.1 [58, 32]
      have b2 : bs L1 ++ bs h.2 = bs L2 := by rw [hL2]; exact bs_app2 _ _
      have b3 : bs L2 ++ ⟨#[13, 10]⟩ = bs L3 := by rw [hL3]; exact bs_app2 _ [13, 10]
      have y1 := bs_size h.1
      have y2 := bs_size h.2
      have y3 : (bs L1).size = h.1.length + 2 := by rw [bs_size, l1]
      have y4 : (bs L2).size = h.1.length + 2 + h.2.length := by rw [bs_size, l2, l1]
      have hk : acc.length + L3.length ≤ 140737488355328 := by omega
      clear hL1 hL2 hL3 l1 l2 l3 hh hrow
      go_upto_region 9 with (first
        | (refine wQ_alloc (cs := zH) rfl _ (by rfl) (by exact hR) zero_hd ?_; intro g6 w6 hR hb6 hg6)
        | (refine wQ_store rfl _ _ _ (by rfl) (by exact hR) g6 rfl #[.string (bs h.1), .string (bs h.2)] (by rfl) _ _ _ (by repeat (first | exact Pick.here | apply Pick.there)) (by kernel_rfl) (by kernel_rfl) (by kernel_rfl) ?_; intro w7 hR hsm7 hsz7))
      have hs6 := hb6.size
      have hkp : ∀ k, k < wr.heap.size → w7.heap[k]? = wr.heap[k]? := fun k hk => by rw [hsm7 k (by omega), hb6.block k hk]
      have HL7 := Lib.hid (HL.out.old hkp)
      have HB7 := Lib.hid (bld_old HB.out (fun k _ hk => hkp k hk))
      clear hkp hsm7 hsz7 hb6 hg6 hs6 e0 e1
      have m0 : w7.cell? ⟨g6, 0, none⟩ = some (.string (bs h.1)) := hR.cellAt (g := g6) (List.Mem.head _) 0 rfl
      have m1 : w7.cell? ⟨g6, 1, none⟩ = some (.string (bs h.2)) := hR.cellAt (g := g6) (List.Mem.head _) 1 rfl
      go_wp2_with (go_at_call 70; refine (bwrite_any w.heap.size gB acc L3 _ HB7.out hk hR.len).mono ?_; rintro e w8 ⟨⟨v8, rfl⟩, hB8, hb8, hf8⟩; have hR := (hR.sub (List.Sublist.cons _ (List.Sublist.refl _))).fr hb8 hf8 (by rfl))
      have HB8 := Lib.hid hB8
      have HL8 := Lib.hid (HL7.out.fr hf8)
      go_roundg (hs2.length - (i + 1))
      case measure => omega
      case rel => exact ⟨i + 1, acc ++ L3, by omega, rfl, by go_num, HA2.out, HB8.out, HL8.out, hR⟩
    · have hltz : ¬ (i : Int) < (hs2.length : Int) := by omega
      have HA2 : Hid (headS q = acc ++ [13, 10]) := Lib.hid (by rw [HH.out, HA.out, List.take_of_length_le (by omega)])
      have hne : acc ≠ [] := by rw [HA.out]; simp [hF0n]
      have za := bs_size acc
      have hap : bs acc ++ ⟨#[13, 10]⟩ = bs (acc ++ [13, 10]) := bs_app2 acc [13, 10]
      go_wp2_with (go_at_call 72; refine (bstring_any w.heap.size gB acc _ HB.out hne).mono ?_; rintro e w5 ⟨rfl, hb5⟩; have hbl := hR.below.trans hb5)
      go_ret
      rw [HA2.out]
      exact ⟨by first | rfl | rw [hap], hbl⟩
end Go.Proofs.YtipjkjcmceeaeaaGreatDoor
