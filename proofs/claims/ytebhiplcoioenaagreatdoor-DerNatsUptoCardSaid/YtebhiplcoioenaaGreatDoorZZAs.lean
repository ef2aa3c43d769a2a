/- errors.As at this package's errors; told: the walks. -/
import Derived.Test.YtebhiplcoioenaaGreatDoorZZErr
import Derived.Deep.LoopGhost
namespace Go.Proofs.YtebhiplcoioenaaGreatDoor
open Go.RowKit Go.Extern.Stop Go.Stop Go.Extern

theorem errV_shape {e : Int} {n : Nat} {v : Value} (h : ErrV e n v) : (n = 0 ∧ v = wrV e) ∨ ∃ m p u, n = m + 1 ∧ v = ptV p u ∧ ErrV e m u := by
  cases h with
  | wrong => exact Or.inl ⟨rfl, rfl⟩
  | part m p u h => exact Or.inr ⟨m, p, u, rfl, rfl, h⟩
theorem heap_row {w : World} {g : Nat} {cs cs' : Array Value} {t : TypeId} {fz : Nat × Nat} (h : w.heap[g]? = some (.cells cs t fz)) : (w.setRow g cs').heap[g]? = some (.cells cs' t fz) := setRow_heap w g cs cs' t fz h
theorem cIsNil (a p : Addr) (W : World) (ha : W.cell? a = some (.pointer (some p))) : (callFunc 91 #[rvV 98 a 150]).run Tryz.prog W = .ok (.value (.bool false)) W := by
  rw [@run_callFunc_extern Tryz.prog 91 _ (ReflectliteValue.method (ReflectliteValue.valueError "reflectlite.Value.IsNil" 0) ReflectliteValue.isNil) Tryz.func91 (by kernel_rfl) (by kernel_rfl) (by kernel_rfl) (by kernel_rfl), asIsNil a p W ha]
  rfl
theorem cElemV (a p : Addr) (W : World) (ha : W.cell? a = some (.pointer (some p))) : (callFunc 110 #[rvV 98 a 150]).run Tryz.prog W = .ok (.value (rvV 85 p 409)) W := by
  rw [@run_callFunc_extern Tryz.prog 110 _ (ReflectliteValue.method (ReflectliteValue.valueError "reflectlite.Value.Elem" 0) ReflectliteValue.elem) Tryz.func110 (by kernel_rfl) (by kernel_rfl) (by kernel_rfl) (by kernel_rfl), asElemV a p W ha]
  rfl
theorem cSet (e old : Int) (gt gb : Nat) (W : World) (hb : W.heap[gb]? = some (.cells #[.int .i64 e] 85 (0, 0))) (ht : W.heap[gt]? = some (.cells #[.int .i64 old] 85 (0, 0))) :
    (callFunc 111 #[rvV 85 ⟨gt, 0, none⟩ 409, rvV 85 ⟨gb, 0, none⟩ 153]).run Tryz.prog W = .ok (.value (.tuple #[])) (W.setRow gt #[.int .i64 e]) := by
  rw [@run_callFunc_extern Tryz.prog 111 _ ReflectliteValue.set Tryz.func111 (by kernel_rfl) (by kernel_rfl) (by kernel_rfl) (by kernel_rfl), asSet e old gt gb W hb ht]
  rfl
set_option maxRecDepth 100000 in
set_option maxHeartbeats 4000000 in
/-- errors.as: the target's row is the error's. -/
theorem as_low (e old : Int) (gt ga : Nat) (n : Nat) (v : Value) (hv : ErrV e n v) (w : World) (ht : w.heap[gt]? = some (.cells #[.int .i64 old] 85 (0, 0))) (ha : w.cell? ⟨ga, 0, none⟩ = some (.pointer (some ⟨gt, 0, none⟩))) :
    Calls Tryz.prog 92 #[v, .iface 98 (.pointer (some ⟨gt, 0, none⟩)), rvV 98 ⟨ga, 0, none⟩ 150, rtI 85] w
      fun en w' => en = .returned (.bool true) ∧ ∃ w2, Below w.heap.size w w2 ∧ w' = w2.setRow gt #[.int .i64 e] := by
  have hgt : gt < w.heap.size := (Array.getElem?_eq_some_iff.1 ht).1
  have HT := Lib.hid ht
  have HA := Lib.hid ha
  have HV := Lib.hid hv
  clear ht ha hv
  have f1 := asTypeOf
  have f2 := asTypeOfP
  have f3 := asMA
  have f4 := asAssign
  have f5 := asAssignP
  have f6 := asUnwraps
  have f7 := asMU
  have f8 := fun v x w => asNoAs 95 (Or.inr rfl) v x w
  have HUW : Hid (∀ p v u, Calls Tryz.prog 167 #[.agg #[.int .i64 p, v]] u fun e w' => e = .returned v ∧ Below u.heap.size u w') := Lib.hid unwrap_any
  go_enter Tryz.func92, Tryz.ntmps92
  go_upto_region 1 with fail
  obtain ⟨gb, hgb⟩ : ∃ gb, gb = w.heap.size := ⟨_, rfl⟩
  obtain ⟨wb, hwb⟩ : ∃ wb, wb = w.alloc (.cells #[.pointer (some ⟨7, 98, none⟩), .pointer (some ⟨ga, 0, none⟩), .int .u64 150] 118) := ⟨_, rfl⟩
  rw [← hwb, ← hgb]
  have HWB : Hid (Below w.heap.size w wb ∧ wb.cell? ⟨gb, 0, none⟩ = some (.pointer (some ⟨7, 98, none⟩)) ∧ wb.cell? ⟨gb, 1, none⟩ = some (.pointer (some ⟨ga, 0, none⟩)) ∧ wb.cell? ⟨gb, 2, none⟩ = some (.int .u64 150)) := Lib.hid (by
    rw [hwb]
    exact ⟨b_alloc _ _, new_cell hgb.symm _ _ 0 rfl, new_cell hgb.symm _ _ 1 rfl, new_cell hgb.symm _ _ 2 rfl⟩)
  clear hwb hgb
  go_loopg [0, 9, 10, 11] n (fun gg s0 _ _ _ wr => ∃ (m : Nat) (v' : Value), gg = m ∧ s0 = v' ∧ Aside (ErrV e m v') ∧ Aside (Below wb.heap.size wb wr))
  case atStart => exact ⟨n, v, rfl, rfl, HV.out, Below.refl _ _⟩
  case round =>
    obtain ⟨m, v', rfl, rfl, HE, HB⟩ := hrel
    have up : Below w.heap.size w wr := HWB.out.1.trans (HB.out.mono HWB.out.1.size)
    have HUP := Lib.hid up
    have kc : ∀ i x, wb.cell? ⟨gb, i, none⟩ = some x → wr.cell? ⟨gb, i, none⟩ = some x := fun i x hx => (HB.out.cell (p := ⟨gb, i, none⟩) (World.block_lt_of_cell? wb _ hx)).trans hx
    rcases errV_shape HE.out with ⟨_, h2⟩ | ⟨q, p, u, h1, h2, h3⟩
    · subst h2
      have c0 := kc 0 _ HWB.out.2.1
      have c1 := kc 1 _ HWB.out.2.2.1
      have c2 := kc 2 _ HWB.out.2.2.2
      have hta : wr.heap[gt]? = some (.cells #[.int .i64 old] 85 (0, 0)) := (up.block gt hgt).trans HT.out
      have hca : wr.cell? ⟨ga, 0, none⟩ = some (.pointer (some ⟨gt, 0, none⟩)) := (up.cell (p := ⟨ga, 0, none⟩) (World.block_lt_of_cell? w _ HA.out)).trans HA.out
      have g1 := cElemV ⟨ga, 0, none⟩ ⟨gt, 0, none⟩ wr hca
      have g2 := asValue e wr
      have g3 := cSet e old gt wr.heap.size (wr.alloc (.cells #[.int .i64 e] 85)) (heap_alloc_new _ _) ((heap_alloc_old _ _ (Nat.lt_of_lt_of_le hgt up.size)).trans hta)
      have HU2 : Hid (Below w.heap.size w (wr.alloc (.cells #[.int .i64 e] 85))) := Lib.hid (up.alloc up.size _)
      clear hta hca up kc f2 f5 f6 f7 f8 hgt
      dsimp only [rvV, wrV] at g1 g2 g3
      go_wp2_with fail
      go_ret
      exact ⟨rfl, _, HU2.out, rfl⟩
    · subst h2
      have HR : Hid (ErrV e q u) := Lib.hid h3
      have HRD : Hid (∀ u2, Below wb.heap.size wb u2 → True) := Lib.hid fun _ _ => trivial
      clear up kc f1 f4 hgt HRD
      rcases errV_shape h3 with ⟨_, h⟩ | ⟨_, p2, u2, _, h, _⟩
      all_goals
        subst h
        clear h3
        go_wp2_with (go_at_call 167; refine (HUW.out _ _ _).mono ?_; rintro e w2 ⟨rfl, hb2⟩)
        go_roundg q
        case measure => omega
        case rel => exact ⟨q, _, rfl, rfl, HR.out, HB.out.trans (hb2.mono HB.out.size)⟩
set_option maxRecDepth 100000 in
set_option maxHeartbeats 4000000 in
theorem As_any (e old : Int) (gt : Nat) (n : Nat) (v : Value) (hv : ErrV e n v) (w : World) (ht : w.heap[gt]? = some (.cells #[.int .i64 old] 85 (0, 0))) (hg : w.cell? ⟨0, 0, none⟩ = some (.iface 144 (.agg #[.pointer (some ⟨7, 50, none⟩)]))) :
    Calls Tryz.prog 70 #[v, .iface 98 (.pointer (some ⟨gt, 0, none⟩))] w
      fun en w' => en = .returned (.bool true) ∧ ∃ w2, Below w.heap.size w w2 ∧ w' = w2.setRow gt #[.int .i64 e] := by
  have hgt : gt < w.heap.size := (Array.getElem?_eq_some_iff.1 ht).1
  have hg0 : 0 < w.heap.size := World.block_lt_of_cell? w _ hg
  obtain ⟨ga, hga⟩ : ∃ ga, ga = w.heap.size := ⟨_, rfl⟩
  obtain ⟨w1, hw1⟩ : ∃ w1, w1 = w.alloc (.cells #[.pointer (some ⟨gt, 0, none⟩)] 98) := ⟨_, rfl⟩
  have f1 := asValueP ⟨gt, 0, none⟩ w
  rw [← hw1, ← hga] at f1
  have hb1 : Below w.heap.size w w1 := by rw [hw1]; exact b_alloc _ _
  have hs1 : w1.heap.size = ga + 1 := by rw [hw1, hga]; simp
  have hca1 : w1.cell? ⟨ga, 0, none⟩ = some (.pointer (some ⟨gt, 0, none⟩)) := by rw [hw1]; exact new_cell hga.symm _ _ 0 rfl
  have f2 := asVType ⟨ga, 0, none⟩
  have f3 := asMK
  have f4 := asKindP
  have f5 := asME
  have f6 := asElem
  have f7 := asKind
  have f8 := asMI
  have f9 := asImpl
  have fN := fun W h => cIsNil ⟨ga, 0, none⟩ ⟨gt, 0, none⟩ W h
  dsimp only [rvV, wrV, rty, rtI] at f1 f2 f4 f6 f7 f9 fN
  have hne : ∃ T u, v = .iface T u ∧ (T = 85 ∨ T = 95) := by
    rcases errV_shape hv with ⟨_, h⟩ | ⟨_, _, _, _, h, _⟩
    · exact ⟨_, _, h, Or.inl rfl⟩
    · exact ⟨_, _, h, Or.inr rfl⟩
  have HAS : Hid (∀ W, W.heap[gt]? = some (.cells #[.int .i64 old] 85 (0, 0)) → W.cell? ⟨ga, 0, none⟩ = some (.pointer (some ⟨gt, 0, none⟩)) → Calls Tryz.prog 92 #[v, .iface 98 (.pointer (some ⟨gt, 0, none⟩)), .agg #[.pointer (some ⟨7, 98, none⟩), .pointer (some ⟨ga, 0, none⟩), .int .u64 150], .iface 144 (.agg #[.pointer (some ⟨7, 85, none⟩)])] W
      fun en w' => en = .returned (.bool true) ∧ ∃ w2, Below W.heap.size W w2 ∧ w' = w2.setRow gt #[.int .i64 e]) := Lib.hid fun W h1 h2 => as_low e old gt ga n v hv W h1 h2
  obtain ⟨T, u, rfl, hT⟩ := hne
  have HW1 : Hid (Below w.heap.size w w1 ∧ w1.heap.size = ga + 1 ∧ w1.cell? ⟨ga, 0, none⟩ = some (.pointer (some ⟨gt, 0, none⟩)) ∧ w1.heap[gt]? = some (.cells #[.int .i64 old] 85 (0, 0)) ∧ w1.cell? ⟨0, 0, none⟩ = some (.iface 144 (.agg #[.pointer (some ⟨7, 50, none⟩)]))) := Lib.hid ⟨hb1, hs1, hca1, (hb1.block gt hgt).trans ht, (hb1.cell (p := ⟨0, 0, none⟩) hg0).trans hg⟩
  clear hw1 hb1 hs1 hca1 ht hg hv hgt hg0 hga
  rcases hT with rfl | rfl
  all_goals
    go_enter Tryz.func70, Tryz.ntmps70
    go_upto_region 6 with fail
    obtain ⟨gv, hgv⟩ : ∃ gv, gv = w1.heap.size := ⟨_, rfl⟩
    obtain ⟨W, hW⟩ : ∃ W, W = w1.alloc (.cells #[.pointer (some ⟨7, 98, none⟩), .pointer (some ⟨ga, 0, none⟩), .int .u64 150] 118) := ⟨_, rfl⟩
    rw [← hW, ← hgv]
    have hb : Below w1.heap.size w1 W := by rw [hW]; exact b_alloc _ _
    have c0 : W.cell? ⟨gv, 0, none⟩ = some (.pointer (some ⟨7, 98, none⟩)) := by rw [hW]; exact new_cell hgv.symm _ _ 0 rfl
    have c1 : W.cell? ⟨gv, 1, none⟩ = some (.pointer (some ⟨ga, 0, none⟩)) := by rw [hW]; exact new_cell hgv.symm _ _ 1 rfl
    have c2 : W.cell? ⟨gv, 2, none⟩ = some (.int .u64 150) := by rw [hW]; exact new_cell hgv.symm _ _ 2 rfl
    have hrow : W.heap[gt]? = some (.cells #[.int .i64 old] 85 (0, 0)) := (hb.block gt (Array.getElem?_eq_some_iff.1 HW1.out.2.2.2.1).1).trans HW1.out.2.2.2.1
    have hca : W.cell? ⟨ga, 0, none⟩ = some (.pointer (some ⟨gt, 0, none⟩)) := (hb.cell (p := ⟨ga, 0, none⟩) (World.block_lt_of_cell? w1 _ HW1.out.2.2.1)).trans HW1.out.2.2.1
    have hgl : W.cell? ⟨0, 0, none⟩ = some (.iface 144 (.agg #[.pointer (some ⟨7, 50, none⟩)])) := (hb.cell (p := ⟨0, 0, none⟩) (World.block_lt_of_cell? w1 _ HW1.out.2.2.2.2)).trans HW1.out.2.2.2.2
    have HBW : Hid (Below w.heap.size w W) := Lib.hid (HW1.out.1.trans (hb.mono HW1.out.1.size))
    have fI := fN W hca
    have HA := Lib.hid (HAS.out W hrow hca)
    clear hW hgv hb hrow hca f1
    go_wp2_with (go_at_call 92; refine HA.out.mono ?_; rintro e w3 ⟨rfl, w2, hb2, rfl⟩)
    go_ret
    exact ⟨rfl, _, HBW.out.trans (hb2.mono HBW.out.size), rfl⟩
set_option maxRecDepth 100000 in
theorem As_nil (t : Value) (w : World) : Calls Tryz.prog 70 #[.nilIface, t] w fun e w' => e = .returned (.bool false) ∧ w' = w := by
  go_enter Tryz.func70, Tryz.ntmps70
  go_wp2
  go_ret
  exact ⟨rfl, rfl⟩
end Go.Proofs.YtebhiplcoioenaaGreatDoor
