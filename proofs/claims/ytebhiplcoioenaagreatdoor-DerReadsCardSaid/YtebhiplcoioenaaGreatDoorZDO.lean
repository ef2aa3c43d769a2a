/- ZErr ZAs ZTold, in one text. -/
import Derived.Test.YtebhiplcoioenaaGreatDoorZYRws
import Derived.Stop.Asserts
import Derived.LaidEql
import Derived.RowKitTokens
import Derived.StillTailTactics
import Derived.Deep.LoopGhost
/- This package's errors; errors.As at them; told. -/
namespace Go.Proofs.YtebhiplcoioenaaGreatDoor
open Go.RowKit Go.Extern.Stop Go.Stop Go.Extern

@[reducible] def wrV (e : Int) : Value := .iface 85 (.agg #[.int .i64 e])
@[reducible] def ptV (p : Int) (v : Value) : Value := .iface 95 (.agg #[.int .i64 p, v])
/-- An error of the number e, so many parts deep. -/
inductive ErrV (e : Int) : Nat → Value → Prop
  | wrong : ErrV e 0 (wrV e)
  | part (n : Nat) (p : Int) (v : Value) : ErrV e n v → ErrV e (n + 1) (ptV p v)
/-- An error's number; 0: there is none. -/
def ErrA (e : Int) (v : Value) : Prop := (e = 0 ∧ v = .nilIface) ∨ (e ≠ 0 ∧ ∃ n, ErrV e n v)

/-! What the model answers at this program's types. -/
@[reducible] def rty (t : TypeId) : Value := .agg #[.pointer (some ⟨7, t, none⟩)]
@[reducible] def rtI (t : TypeId) : Value := .iface 144 (rty t)
@[reducible] def rvV (t : TypeId) (a : Addr) (fl : Int) : Value := .agg #[.pointer (some ⟨7, t, none⟩), .pointer (some a), .int .u64 fl]
theorem asTypeOf (v : Value) (w : World) : (callFunc 109 #[.iface 85 v]).run Tryz.prog w = .ok (.value (rtI 85)) w := by kernel_rfl
theorem asTypeOfP (v : Value) (w : World) : (callFunc 109 #[.iface 95 v]).run Tryz.prog w = .ok (.value (rtI 95)) w := by kernel_rfl
theorem asMA (v : Value) (w : World) : (Go.method 316 144 v "AssignableTo").run Tryz.prog w = .ok (173, v) w := by kernel_rfl
theorem asME (v : Value) (w : World) : (Go.method 316 144 v "Elem").run Tryz.prog w = .ok (175, v) w := by kernel_rfl
theorem asMI (v : Value) (w : World) : (Go.method 316 144 v "Implements").run Tryz.prog w = .ok (176, v) w := by kernel_rfl
theorem asAssign (w : World) : (callFunc 173 #[rty 85, rtI 85]).run Tryz.prog w = .ok (.value (.bool true)) w := by kernel_rfl
theorem asAssignP (w : World) : (callFunc 173 #[rty 95, rtI 85]).run Tryz.prog w = .ok (.value (.bool false)) w := by kernel_rfl
theorem asElem (w : World) : (callFunc 175 #[rty 98]).run Tryz.prog w = .ok (.value (rtI 85)) w := by kernel_rfl
theorem asImpl (w : World) : (callFunc 176 #[rty 85, rtI 50]).run Tryz.prog w = .ok (.value (.bool true)) w := by kernel_rfl
theorem asValueP (t : Addr) (w : World) : (callFunc 89 #[.iface 98 (.pointer (some t))]).run Tryz.prog w = .ok (.value (rvV 98 ⟨w.heap.size, 0, none⟩ 150)) (w.alloc (.cells #[.pointer (some t)] 98)) := by kernel_rfl
theorem asValue (e : Int) (w : World) : (callFunc 89 #[wrV e]).run Tryz.prog w = .ok (.value (rvV 85 ⟨w.heap.size, 0, none⟩ 153)) (w.alloc (.cells #[.int .i64 e] 85)) := by kernel_rfl
theorem asVType (a : Addr) (w : World) : (callFunc 90 #[rvV 98 a 150]).run Tryz.prog w = .ok (.value (rtI 98)) w := by kernel_rfl
theorem asMK (h : Value) (w : World) : (Go.method 316 144 (.agg #[h]) "Kind").run Tryz.prog w = .ok (162, h) w := by kernel_rfl
theorem asKindP (w : World) : (callFunc 162 #[.pointer (some ⟨7, 98, none⟩)]).run Tryz.prog w = .ok (.value (.int .u8 22)) w := by kernel_rfl
theorem asKind (w : World) : (callFunc 162 #[.pointer (some ⟨7, 85, none⟩)]).run Tryz.prog w = .ok (.value (.int .u8 25)) w := by kernel_rfl
/-! The entries that read or write memory (as the kit's example has them). -/
theorem rlm (z : Sem Value) (f : TypeId → Addr → Nat → Nat → Sem Value) (v : Value) :
    ReflectliteValue.method z f #[v] = (do match ← ReflectliteValue.parts v with | none => z | some (t, a, fl) => f t a fl (fl % 32)) := rfl
theorem asParts (a : Addr) (w : World) : (ReflectliteValue.parts (rvV 98 a 150)).run Tryz.prog w = .ok (some (98, a, 150)) w := by kernel_rfl
theorem asParts1 (a : Addr) (w : World) : (ReflectliteValue.parts (rvV 85 a 409)).run Tryz.prog w = .ok (some (85, a, 409)) w := by kernel_rfl
theorem asParts2 (a : Addr) (w : World) : (ReflectliteValue.parts (rvV 85 a 153)).run Tryz.prog w = .ok (some (85, a, 153)) w := by kernel_rfl
theorem asIsNil (a p : Addr) (W : World) (ha : W.cell? a = some (.pointer (some p))) :
    (ReflectliteValue.method (ReflectliteValue.valueError "reflectlite.Value.IsNil" 0) ReflectliteValue.isNil #[rvV 98 a 150]).run Tryz.prog W = .ok (.bool false) W := by
  rw [rlm]
  simp only [Sem.run_bind, asParts, Result.andThen]
  simp [ReflectliteValue.isNil, loadVar, isAgg, underlying, Tryz.underlying98, ha, Result.andThen]
theorem asElemOf (w : World) : (Rtype.elem? 98).run Tryz.prog w = .ok (some 85) w := by kernel_rfl
theorem asMk (p : Addr) (w : World) : (ReflectliteValue.mk 85 p ReflectliteValue.flagAddr).run Tryz.prog w = .ok (rvV 85 p 409) w := by kernel_rfl
theorem asElemV (a p : Addr) (W : World) (ha : W.cell? a = some (.pointer (some p))) :
    (ReflectliteValue.method (ReflectliteValue.valueError "reflectlite.Value.Elem" 0) ReflectliteValue.elem #[rvV 98 a 150]).run Tryz.prog W
      = .ok (rvV 85 p 409) W := by
  rw [rlm]
  simp only [Sem.run_bind, asParts, Result.andThen]
  simp [ReflectliteValue.elem, loadVar, isAgg, underlying, Tryz.underlying98, ha, Result.andThen, asElemOf, asMk]
theorem rls (v x : Value) : ReflectliteValue.set #[v, x] = (do
    let (some (dst, a, fl), some (src, b, _)) := (← ReflectliteValue.parts v, ← ReflectliteValue.parts x)
      | unsupported (.noEntry "extern/(internal/reflectlite.Value).Set.zeroValue")
    if fl / ReflectliteValue.flagAddr % 2 == 0 then unsupported (.noEntry "extern/(internal/reflectlite.Value).Set.unaddressable")
    let val ← loadVar src b
    if ← Rtype.directlyAssignable dst src then storeVar dst a val
    else if ← Rtype.implements dst src then
      if (← Rtype.kind src) == 20 then
        match val with
        | .nilIface => unsupported (.noEntry "extern/reflectlite: a nil value of one interface type handed on as a value of another")
        | _ => storeVar dst a val
      else storeVar dst a (.iface src val)
    else panicString ("reflectlite.Set: value of type " ++ (← Rtype.spelt src) ++ " is not assignable to type " ++ (← Rtype.spelt dst))
    pure (.tuple #[])) := rfl
theorem asDirect (w : World) : (Rtype.directlyAssignable 85 85).run Tryz.prog w = .ok true w := by kernel_rfl
theorem asInfo : (Tryz.prog.info? 85).map (·.size) = some 1 := by kernel_rfl
theorem asSet (e old : Int) (gt gb : Nat) (W : World) (hb : W.heap[gb]? = some (.cells #[.int .i64 e] 85 (0, 0))) (ht : W.heap[gt]? = some (.cells #[.int .i64 old] 85 (0, 0))) :
    (ReflectliteValue.set #[rvV 85 ⟨gt, 0, none⟩ 409, rvV 85 ⟨gb, 0, none⟩ 153]).run Tryz.prog W
      = .ok (.tuple #[]) (W.setRow gt #[.int .i64 e]) := by
  have h1 := run_loadVar_row (P := Tryz.prog) W gb 85 85 #[.int .i64 e] (0, 0) _ hb Tryz.underlying85 rfl asInfo
  have h2 := run_storeVar_row (P := Tryz.prog) W gt 85 85 #[.int .i64 old] #[.int .i64 e] ht asInfo rfl (by simp [Value.oneCell'])
  rw [rls]
  simp only [Sem.run_bind, asParts1, asParts2, Result.andThen]
  simp [ReflectliteValue.flagAddr, h1, Result.andThen, asDirect, h2]
theorem asNoAs (T : TypeId) (hT : T = 85 ∨ T = 95) (v : Value) (xT : TypeId) (w : World) : (Instr.typeAssert (.iface T v) xT 149 true).run Tryz.prog w = .ok (.tuple #[.nilIface, .bool false]) w := by
  rcases hT with rfl | rfl
  · exact run_typeAssert_lacksB Tryz.underlying149 (by kernel_rfl) (by kernel_rfl) v xT w
  · exact run_typeAssert_lacksB Tryz.underlying149 (by kernel_rfl) (by kernel_rfl) v xT w
theorem asUnwraps (v : Value) (xT : TypeId) (w : World) : (Instr.typeAssert (.iface 95 v) xT 152 true).run Tryz.prog w = .ok (.tuple #[.iface 95 v, .bool true]) w := run_typeAssert_hasB Tryz.underlying152 (by kernel_rfl) v xT w
theorem asMU (v : Value) (w : World) : (Go.method 316 95 v "Unwrap").run Tryz.prog w = .ok (167, v) w := by kernel_rfl
set_option maxRecDepth 100000 in
theorem unwrap_any (p : Int) (v : Value) (w : World) : Calls Tryz.prog 167 #[.agg #[.int .i64 p, v]] w fun e w' => e = .returned v ∧ Below w.heap.size w w' := by
  go_enter Tryz.func167, Tryz.ntmps167
  go_wp2_with fail
  go_ret
  exact ⟨rfl, (Below.refl _ _).alloc (Nat.le_refl _) _⟩
end Go.Proofs.YtebhiplcoioenaaGreatDoor
/- errors.As at this package's errors; told: the walks. -/
namespace Go.Proofs.YtebhiplcoioenaaGreatDoor
open Go.RowKit Go.Extern.Stop Go.Stop Go.Extern

theorem errV_shape {e : Int} {n : Nat} {v : Value} (h : ErrV e n v) : (n = 0 ∧ v = wrV e) ∨ ∃ m p u, n = m + 1 ∧ v = ptV p u ∧ ErrV e m u := by
  cases h with
  | wrong => exact Or.inl ⟨rfl, rfl⟩
  | part m p u h => exact Or.inr ⟨m, p, u, rfl, rfl, h⟩
theorem heap_row {w : World} {g : Nat} {cs cs' : Array Value} {t : TypeId} {fz : Nat × Nat} (h : w.heap[g]? = some (.cells cs t fz)) : (w.setRow g cs').heap[g]? = some (.cells cs' t fz) := setRow_heap w g cs cs' t fz h
theorem cIsNil (a p : Addr) (W : World) (ha : W.cell? a = some (.pointer (some p))) : (callFunc 91 #[rvV 98 a 150]).run Tryz.prog W = .ok (.value (.bool false)) W := by
  rw [@run_callFunc_extern Tryz.prog 91 _ (ReflectliteValue.method (ReflectliteValue.valueError "reflectlite.Value.IsNil" 0) ReflectliteValue.isNil) Tryz.func91 (by kernel_rfl) (by kernel_rfl) (by kernel_rfl) (by kernel_rfl), asIsNil a p W ha]
  rfl
theorem cElemV (a p : Addr) (W : World) (ha : W.cell? a = some (.pointer (some p))) : (callFunc 110 #[rvV 98 a 150]).run Tryz.prog W = .ok (.value (rvV 85 p 409)) W := by
  rw [@run_callFunc_extern Tryz.prog 110 _ (ReflectliteValue.method (ReflectliteValue.valueError "reflectlite.Value.Elem" 0) ReflectliteValue.elem) Tryz.func110 (by kernel_rfl) (by kernel_rfl) (by kernel_rfl) (by kernel_rfl), asElemV a p W ha]
  rfl
theorem cSet (e old : Int) (gt gb : Nat) (W : World) (hb : W.heap[gb]? = some (.cells #[.int .i64 e] 85 (0, 0))) (ht : W.heap[gt]? = some (.cells #[.int .i64 old] 85 (0, 0))) :
    (callFunc 111 #[rvV 85 ⟨gt, 0, none⟩ 409, rvV 85 ⟨gb, 0, none⟩ 153]).run Tryz.prog W = .ok (.value (.tuple #[])) (W.setRow gt #[.int .i64 e]) := by
  rw [@run_callFunc_extern Tryz.prog 111 _ ReflectliteValue.set Tryz.func111 (by kernel_rfl) (by kernel_rfl) (by kernel_rfl) (by kernel_rfl), asSet e old gt gb W hb ht]
  rfl
set_option maxRecDepth 100000 in
set_option maxHeartbeats 4000000 in
/-- errors.as: the target's row is the error's. -/
theorem as_low (e old : Int) (gt ga : Nat) (n : Nat) (v : Value) (hv : ErrV e n v) (w : World) (ht : w.heap[gt]? = some (.cells #[.int .i64 old] 85 (0, 0))) (ha : w.cell? ⟨ga, 0, none⟩ = some (.pointer (some ⟨gt, 0, none⟩))) :
    Calls Tryz.prog 92 #[v, .iface 98 (.pointer (some ⟨gt, 0, none⟩)), rvV 98 ⟨ga, 0, none⟩ 150, rtI 85] w
      fun en w' => en = .returned (.bool true) ∧ ∃ w2, Below w.heap.size w w2 ∧ w' = w2.setRow gt #[.int .i64 e] := by
  have hgt : gt < w.heap.size := (Array.getElem?_eq_some_iff.1 ht).1
  have HT := Lib.hid ht
  have HA := Lib.hid ha
  have HV := Lib.hid hv
  clear ht ha hv
  have f1 := asTypeOf
  have f2 := asTypeOfP
  have f3 := asMA
  have f4 := asAssign
  have f5 := asAssignP
  have f6 := asUnwraps
  have f7 := asMU
  have f8 := fun v x w => asNoAs 95 (Or.inr rfl) v x w
  have HUW : Hid (∀ p v u, Calls Tryz.prog 167 #[.agg #[.int .i64 p, v]] u fun e w' => e = .returned v ∧ Below u.heap.size u w') := Lib.hid unwrap_any
  go_enter Tryz.func92, Tryz.ntmps92
  go_upto_region 1 with fail
  obtain ⟨gb, hgb⟩ : ∃ gb, gb = w.heap.size := ⟨_, rfl⟩
  obtain ⟨wb, hwb⟩ : ∃ wb, wb = w.alloc (.cells #[.pointer (some ⟨7, 98, none⟩), .pointer (some ⟨ga, 0, none⟩), .int .u64 150] 118) := ⟨_, rfl⟩
  rw [← hwb, ← hgb]
  have HWB : Hid (Below w.heap.size w wb ∧ wb.cell? ⟨gb, 0, none⟩ = some (.pointer (some ⟨7, 98, none⟩)) ∧ wb.cell? ⟨gb, 1, none⟩ = some (.pointer (some ⟨ga, 0, none⟩)) ∧ wb.cell? ⟨gb, 2, none⟩ = some (.int .u64 150)) := Lib.hid (by
    rw [hwb]
    exact ⟨b_alloc _ _, new_cell hgb.symm _ _ 0 rfl, new_cell hgb.symm _ _ 1 rfl, new_cell hgb.symm _ _ 2 rfl⟩)
  clear hwb hgb
  go_loopg [0, 9, 10, 11] n (fun gg s0 _ _ _ wr => ∃ (m : Nat) (v' : Value), gg = m ∧ s0 = v' ∧ Aside (ErrV e m v') ∧ Aside (Below wb.heap.size wb wr))
  case atStart => exact ⟨n, v, rfl, rfl, HV.out, Below.refl _ _⟩
  case round =>
    obtain ⟨m, v', rfl, rfl, HE, HB⟩ := hrel
    have up : Below w.heap.size w wr := HWB.out.1.trans (HB.out.mono HWB.out.1.size)
    have HUP := Lib.hid up
    have kc : ∀ i x, wb.cell? ⟨gb, i, none⟩ = some x → wr.cell? ⟨gb, i, none⟩ = some x := fun i x hx => (HB.out.cell (p := ⟨gb, i, none⟩) (World.block_lt_of_cell? wb _ hx)).trans hx
    rcases errV_shape HE.out with ⟨_, h2⟩ | ⟨q, p, u, h1, h2, h3⟩
    · subst h2
      have c0 := kc 0 _ HWB.out.2.1
      have c1 := kc 1 _ HWB.out.2.2.1
      have c2 := kc 2 _ HWB.out.2.2.2
      have hta : wr.heap[gt]? = some (.cells #[.int .i64 old] 85 (0, 0)) := (up.block gt hgt).trans HT.out
      have hca : wr.cell? ⟨ga, 0, none⟩ = some (.pointer (some ⟨gt, 0, none⟩)) := (up.cell (p := ⟨ga, 0, none⟩) (World.block_lt_of_cell? w _ HA.out)).trans HA.out
      have g1 := cElemV ⟨ga, 0, none⟩ ⟨gt, 0, none⟩ wr hca
      have g2 := asValue e wr
      have g3 := cSet e old gt wr.heap.size (wr.alloc (.cells #[.int .i64 e] 85)) (heap_alloc_new _ _) ((heap_alloc_old _ _ (Nat.lt_of_lt_of_le hgt up.size)).trans hta)
      have HU2 : Hid (Below w.heap.size w (wr.alloc (.cells #[.int .i64 e] 85))) := Lib.hid (up.alloc up.size _)
      clear hta hca up kc f2 f5 f6 f7 f8 hgt
      dsimp only [rvV, wrV] at g1 g2 g3
      go_wp2_with fail
      go_ret
      exact ⟨rfl, _, HU2.out, rfl⟩
    · subst h2
      have HR : Hid (ErrV e q u) := Lib.hid h3
      have HRD : Hid (∀ u2, Below wb.heap.size wb u2 → True) := Lib.hid fun _ _ => trivial
      clear up kc f1 f4 hgt HRD
      rcases errV_shape h3 with ⟨_, h⟩ | ⟨_, p2, u2, _, h, _⟩
      all_goals
        subst h
        clear h3
        go_wp2_with (go_at_call 167; refine (HUW.out _ _ _).mono ?_; rintro e w2 ⟨rfl, hb2⟩)
        go_roundg q
        case measure => omega
        case rel => exact ⟨q, _, rfl, rfl, HR.out, HB.out.trans (hb2.mono HB.out.size)⟩
set_option maxRecDepth 100000 in
set_option maxHeartbeats 4000000 in
theorem As_any (e old : Int) (gt : Nat) (n : Nat) (v : Value) (hv : ErrV e n v) (w : World) (ht : w.heap[gt]? = some (.cells #[.int .i64 old] 85 (0, 0))) (hg : w.cell? ⟨0, 0, none⟩ = some (.iface 144 (.agg #[.pointer (some ⟨7, 50, none⟩)]))) :
    Calls Tryz.prog 70 #[v, .iface 98 (.pointer (some ⟨gt, 0, none⟩))] w
      fun en w' => en = .returned (.bool true) ∧ ∃ w2, Below w.heap.size w w2 ∧ w' = w2.setRow gt #[.int .i64 e] := by
  have hgt : gt < w.heap.size := (Array.getElem?_eq_some_iff.1 ht).1
  have hg0 : 0 < w.heap.size := World.block_lt_of_cell? w _ hg
  obtain ⟨ga, hga⟩ : ∃ ga, ga = w.heap.size := ⟨_, rfl⟩
  obtain ⟨w1, hw1⟩ : ∃ w1, w1 = w.alloc (.cells #[.pointer (some ⟨gt, 0, none⟩)] 98) := ⟨_, rfl⟩
  have f1 := asValueP ⟨gt, 0, none⟩ w
  rw [← hw1, ← hga] at f1
  have hb1 : Below w.heap.size w w1 := by rw [hw1]; exact b_alloc _ _
  have hs1 : w1.heap.size = ga + 1 := by rw [hw1, hga]; simp
  have hca1 : w1.cell? ⟨ga, 0, none⟩ = some (.pointer (some ⟨gt, 0, none⟩)) := by rw [hw1]; exact new_cell hga.symm _ _ 0 rfl
  have f2 := asVType ⟨ga, 0, none⟩
  have f3 := asMK
  have f4 := asKindP
  have f5 := asME
  have f6 := asElem
  have f7 := asKind
  have f8 := asMI
  have f9 := asImpl
  have fN := fun W h => cIsNil ⟨ga, 0, none⟩ ⟨gt, 0, none⟩ W h
  dsimp only [rvV, wrV, rty, rtI] at f1 f2 f4 f6 f7 f9 fN
  have hne : ∃ T u, v = .iface T u ∧ (T = 85 ∨ T = 95) := by
    rcases errV_shape hv with ⟨_, h⟩ | ⟨_, _, _, _, h, _⟩
    · exact ⟨_, _, h, Or.inl rfl⟩
    · exact ⟨_, _, h, Or.inr rfl⟩
  have HAS : Hid (∀ W, W.heap[gt]? = some (.cells #[.int .i64 old] 85 (0, 0)) → W.cell? ⟨ga, 0, none⟩ = some (.pointer (some ⟨gt, 0, none⟩)) → Calls Tryz.prog 92 #[v, .iface 98 (.pointer (some ⟨gt, 0, none⟩)), .agg #[.pointer (some ⟨7, 98, none⟩), .pointer (some ⟨ga, 0, none⟩), .int .u64 150], .iface 144 (.agg #[.pointer (some ⟨7, 85, none⟩)])] W
      fun en w' => en = .returned (.bool true) ∧ ∃ w2, Below W.heap.size W w2 ∧ w' = w2.setRow gt #[.int .i64 e]) := Lib.hid fun W h1 h2 => as_low e old gt ga n v hv W h1 h2
  obtain ⟨T, u, rfl, hT⟩ := hne
  have HW1 : Hid (Below w.heap.size w w1 ∧ w1.heap.size = ga + 1 ∧ w1.cell? ⟨ga, 0, none⟩ = some (.pointer (some ⟨gt, 0, none⟩)) ∧ w1.heap[gt]? = some (.cells #[.int .i64 old] 85 (0, 0)) ∧ w1.cell? ⟨0, 0, none⟩ = some (.iface 144 (.agg #[.pointer (some ⟨7, 50, none⟩)]))) := Lib.hid ⟨hb1, hs1, hca1, (hb1.block gt hgt).trans ht, (hb1.cell (p := ⟨0, 0, none⟩) hg0).trans hg⟩
  clear hw1 hb1 hs1 hca1 ht hg hv hgt hg0 hga
  rcases hT with rfl | rfl
  all_goals
    go_enter Tryz.func70, Tryz.ntmps70
    go_upto_region 6 with fail
    obtain ⟨gv, hgv⟩ : ∃ gv, gv = w1.heap.size := ⟨_, rfl⟩
    obtain ⟨W, hW⟩ : ∃ W, W = w1.alloc (.cells #[.pointer (some ⟨7, 98, none⟩), .pointer (some ⟨ga, 0, none⟩), .int .u64 150] 118) := ⟨_, rfl⟩
    rw [← hW, ← hgv]
    have hb : Below w1.heap.size w1 W := by rw [hW]; exact b_alloc _ _
    have c0 : W.cell? ⟨gv, 0, none⟩ = some (.pointer (some ⟨7, 98, none⟩)) := by rw [hW]; exact new_cell hgv.symm _ _ 0 rfl
    have c1 : W.cell? ⟨gv, 1, none⟩ = some (.pointer (some ⟨ga, 0, none⟩)) := by rw [hW]; exact new_cell hgv.symm _ _ 1 rfl
    have c2 : W.cell? ⟨gv, 2, none⟩ = some (.int .u64 150) := by rw [hW]; exact new_cell hgv.symm _ _ 2 rfl
    have hrow : W.heap[gt]? = some (.cells #[.int .i64 old] 85 (0, 0)) := (hb.block gt (Array.getElem?_eq_some_iff.1 HW1.out.2.2.2.1).1).trans HW1.out.2.2.2.1
    have hca : W.cell? ⟨ga, 0, none⟩ = some (.pointer (some ⟨gt, 0, none⟩)) := (hb.cell (p := ⟨ga, 0, none⟩) (World.block_lt_of_cell? w1 _ HW1.out.2.2.1)).trans HW1.out.2.2.1
    have hgl : W.cell? ⟨0, 0, none⟩ = some (.iface 144 (.agg #[.pointer (some ⟨7, 50, none⟩)])) := (hb.cell (p := ⟨0, 0, none⟩) (World.block_lt_of_cell? w1 _ HW1.out.2.2.2.2)).trans HW1.out.2.2.2.2
    have HBW : Hid (Below w.heap.size w W) := Lib.hid (HW1.out.1.trans (hb.mono HW1.out.1.size))
    have fI := fN W hca
    have HA := Lib.hid (HAS.out W hrow hca)
    clear hW hgv hb hrow hca f1
    go_wp2_with (go_at_call 92; refine HA.out.mono ?_; rintro e w3 ⟨rfl, w2, hb2, rfl⟩)
    go_ret
    exact ⟨rfl, _, HBW.out.trans (hb2.mono HBW.out.size), rfl⟩
set_option maxRecDepth 100000 in
theorem As_nil (t : Value) (w : World) : Calls Tryz.prog 70 #[.nilIface, t] w fun e w' => e = .returned (.bool false) ∧ w' = w := by
  go_enter Tryz.func70, Tryz.ntmps70
  go_wp2
  go_ret
  exact ⟨rfl, rfl⟩
end Go.Proofs.YtebhiplcoioenaaGreatDoor
/- der.told, der.is: the walks. -/
namespace Go.Proofs.YtebhiplcoioenaaGreatDoor
open Go.RowKit

/-- What the library's variables hold: errors' own type. -/
def ErrTy (w : World) : Prop := w.cell? ⟨0, 0, none⟩ = some (.iface 144 (.agg #[.pointer (some ⟨7, 50, none⟩)]))
theorem ErrTy.below {w w' : World} (h : ErrTy w) (hb : Below w.heap.size w w') : ErrTy w' := (hb.cell (p := ⟨0, 0, none⟩) (World.block_lt_of_cell? w _ h)).trans h
theorem ErrTy.belowB {w w' : World} {B : Nat} (h : ErrTy w) (hb : Below B w w') (hB : 0 < B) : ErrTy w' := (hb.cell (p := ⟨0, 0, none⟩) hB).trans h
theorem setRow_below {B : Nat} {w w2 : World} {g : Nat} {cs : Array Value} (h : Below B w w2) (hg : B ≤ g) : Below B w (w2.setRow g cs) :=
  h.trans ⟨rfl, rfl, rfl, by simp, fun k hk => setRow_other w2 g k cs (by omega)⟩
set_option maxRecDepth 100000 in
set_option maxHeartbeats 4000000 in
theorem told_any (e : Int) (v : Value) (hv : ErrA e v) (w : World) (hg : ErrTy w) : Calls Tryz.prog 36 #[v] w (RetI e w) := by
  rcases hv with ⟨rfl, rfl⟩ | ⟨_, n, hv⟩
  · have HN : Hid (∀ t u, Calls Tryz.prog 70 #[.nilIface, t] u fun e w' => e = .returned (.bool false) ∧ w' = u) := Lib.hid As_nil
    go_enter Tryz.func36, Tryz.ntmps36
    go_wp2_with (go_at_call 70; refine (HN.out _ _).mono ?_; rintro e w1 ⟨rfl, rfl⟩)
    go_ret
    exact ⟨rfl, b_alloc _ _⟩
  · have HG := Lib.hid hg
    have HV := Lib.hid hv
    clear hg hv
    go_enter Tryz.func36, Tryz.ntmps36
    go_upto_region 2 with fail
    obtain ⟨gt, hgt⟩ : ∃ gt, gt = w.heap.size := ⟨_, rfl⟩
    obtain ⟨w1, hw1⟩ : ∃ w1, w1 = w.alloc (.cells #[.int .i64 0] 85) := ⟨_, rfl⟩
    rw [← hw1, ← hgt]
    have HB : Hid (Below w.heap.size w w1 ∧ w1.heap.size = gt + 1 ∧ w.heap.size = gt ∧ w1.heap[gt]? = some (.cells #[.int .i64 0] 85 (0, 0))) := Lib.hid ⟨by rw [hw1]; exact b_alloc _ _, by rw [hw1, hgt]; simp, hgt.symm, by rw [hw1, hgt]; exact heap_alloc_new _ _⟩
    have HA := Lib.hid (As_any e 0 gt n v HV.out w1 HB.out.2.2.2 (HG.out.below HB.out.1))
    clear hw1 hgt
    go_upto_region 3 with (go_at_call 70; refine HA.out.mono ?_; rintro en w3 ⟨rfl, w2, hb2, rfl⟩)
    have hrow : (w2.setRow gt #[.int .i64 e]).heap[gt]? = some (.cells #[.int .i64 e] 85 (0, 0)) := heap_row ((hb2.block gt (by have := HB.out.2.1; omega)).trans HB.out.2.2.2)
    have hc : (w2.setRow gt #[.int .i64 e]).cell? ⟨gt, 0, none⟩ = some (.int .i64 e) := by rw [cell_of_row _ gt 0 _ _ _ hrow]; rfl
    have HR : Hid (Below w.heap.size w (w2.setRow gt #[.int .i64 e])) := Lib.hid (setRow_below (HB.out.1.trans (hb2.mono HB.out.1.size)) (by have := HB.out.2.2.1; omega))
    generalize w2.setRow gt #[.int .i64 e] = w4 at *
    clear hrow hb2
    go_wp2_with fail
    go_ret
    exact ⟨rfl, HR.out⟩
theorem is_any (b : Bool) (e : Int) (w : World) : Calls Tryz.prog 34 #[.bool b, .int .i64 e] w fun en w' => en = .returned (if b then wrV e else .nilIface) ∧ w' = w := by
  cases b with
  | true =>
    go_enter Tryz.func34, Tryz.ntmps34
    go_wp2
    go_ret
    exact ⟨rfl, rfl⟩
  | false =>
    go_enter Tryz.func34, Tryz.ntmps34
    go_wp2
    go_ret
    exact ⟨rfl, rfl⟩
end Go.Proofs.YtebhiplcoioenaaGreatDoor
