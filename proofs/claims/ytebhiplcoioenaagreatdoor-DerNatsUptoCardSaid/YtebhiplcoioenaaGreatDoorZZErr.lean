/- This package's errors; errors.As at them; told. -/
import Derived.Test.YtebhiplcoioenaaGreatDoorZYRws
import Derived.Stop.Asserts
import Derived.LaidEql
import Derived.RowKitTokens
import Derived.StillTailTactics
namespace Go.Proofs.YtebhiplcoioenaaGreatDoor
open Go.RowKit Go.Extern.Stop Go.Stop Go.Extern

@[reducible] def wrV (e : Int) : Value := .iface 85 (.agg #[.int .i64 e])
@[reducible] def ptV (p : Int) (v : Value) : Value := .iface 95 (.agg #[.int .i64 p, v])
/-- An error of the number e, so many parts deep. -/
inductive ErrV (e : Int) : Nat → Value → Prop
  | wrong : ErrV e 0 (wrV e)
  | part (n : Nat) (p : Int) (v : Value) : ErrV e n v → ErrV e (n + 1) (ptV p v)
/-- An error's number; 0: there is none. -/
def ErrA (e : Int) (v : Value) : Prop := (e = 0 ∧ v = .nilIface) ∨ (e ≠ 0 ∧ ∃ n, ErrV e n v)

/-! What the model answers at this program's types. -/
@[reducible] def rty (t : TypeId) : Value := .agg #[.pointer (some ⟨7, t, none⟩)]
@[reducible] def rtI (t : TypeId) : Value := .iface 144 (rty t)
@[reducible] def rvV (t : TypeId) (a : Addr) (fl : Int) : Value := .agg #[.pointer (some ⟨7, t, none⟩), .pointer (some a), .int .u64 fl]
theorem asTypeOf (v : Value) (w : World) : (callFunc 109 #[.iface 85 v]).run Tryz.prog w = .ok (.value (rtI 85)) w := by kernel_rfl
theorem asTypeOfP (v : Value) (w : World) : (callFunc 109 #[.iface 95 v]).run Tryz.prog w = .ok (.value (rtI 95)) w := by kernel_rfl
theorem asMA (v : Value) (w : World) : (Go.method 316 144 v "AssignableTo").run Tryz.prog w = .ok (173, v) w := by kernel_rfl
theorem asME (v : Value) (w : World) : (Go.method 316 144 v "Elem").run Tryz.prog w = .ok (175, v) w := by kernel_rfl
theorem asMI (v : Value) (w : World) : (Go.method 316 144 v "Implements").run Tryz.prog w = .ok (176, v) w := by kernel_rfl
theorem asAssign (w : World) : (callFunc 173 #[rty 85, rtI 85]).run Tryz.prog w = .ok (.value (.bool true)) w := by kernel_rfl
theorem asAssignP (w : World) : (callFunc 173 #[rty 95, rtI 85]).run Tryz.prog w = .ok (.value (.bool false)) w := by kernel_rfl
theorem asElem (w : World) : (callFunc 175 #[rty 98]).run Tryz.prog w = .ok (.value (rtI 85)) w := by kernel_rfl
theorem asImpl (w : World) : (callFunc 176 #[rty 85, rtI 50]).run Tryz.prog w = .ok (.value (.bool true)) w := by kernel_rfl
theorem asValueP (t : Addr) (w : World) : (callFunc 89 #[.iface 98 (.pointer (some t))]).run Tryz.prog w = .ok (.value (rvV 98 ⟨w.heap.size, 0, none⟩ 150)) (w.alloc (.cells #[.pointer (some t)] 98)) := by kernel_rfl
theorem asValue (e : Int) (w : World) : (callFunc 89 #[wrV e]).run Tryz.prog w = .ok (.value (rvV 85 ⟨w.heap.size, 0, none⟩ 153)) (w.alloc (.cells #[.int .i64 e] 85)) := by kernel_rfl
theorem asVType (a : Addr) (w : World) : (callFunc 90 #[rvV 98 a 150]).run Tryz.prog w = .ok (.value (rtI 98)) w := by kernel_rfl
theorem asMK (h : Value) (w : World) : (Go.method 316 144 (.agg #[h]) "Kind").run Tryz.prog w = .ok (162, h) w := by kernel_rfl
theorem asKindP (w : World) : (callFunc 162 #[.pointer (some ⟨7, 98, none⟩)]).run Tryz.prog w = .ok (.value (.int .u8 22)) w := by kernel_rfl
theorem asKind (w : World) : (callFunc 162 #[.pointer (some ⟨7, 85, none⟩)]).run Tryz.prog w = .ok (.value (.int .u8 25)) w := by kernel_rfl
/-! The entries that read or write memory (as the kit's example has them). -/
theorem rlm (z : Sem Value) (f : TypeId → Addr → Nat → Nat → Sem Value) (v : Value) :
    ReflectliteValue.method z f #[v] = (do match ← ReflectliteValue.parts v with | none => z | some (t, a, fl) => f t a fl (fl % 32)) := rfl
theorem asParts (a : Addr) (w : World) : (ReflectliteValue.parts (rvV 98 a 150)).run Tryz.prog w = .ok (some (98, a, 150)) w := by kernel_rfl
theorem asParts1 (a : Addr) (w : World) : (ReflectliteValue.parts (rvV 85 a 409)).run Tryz.prog w = .ok (some (85, a, 409)) w := by kernel_rfl
theorem asParts2 (a : Addr) (w : World) : (ReflectliteValue.parts (rvV 85 a 153)).run Tryz.prog w = .ok (some (85, a, 153)) w := by kernel_rfl
theorem asIsNil (a p : Addr) (W : World) (ha : W.cell? a = some (.pointer (some p))) :
    (ReflectliteValue.method (ReflectliteValue.valueError "reflectlite.Value.IsNil" 0) ReflectliteValue.isNil #[rvV 98 a 150]).run Tryz.prog W = .ok (.bool false) W := by
  rw [rlm]
  simp only [Sem.run_bind, asParts, Result.andThen]
  simp [ReflectliteValue.isNil, loadVar, isAgg, underlying, Tryz.underlying98, ha, Result.andThen]
theorem asElemOf (w : World) : (Rtype.elem? 98).run Tryz.prog w = .ok (some 85) w := by kernel_rfl
theorem asMk (p : Addr) (w : World) : (ReflectliteValue.mk 85 p ReflectliteValue.flagAddr).run Tryz.prog w = .ok (rvV 85 p 409) w := by kernel_rfl
theorem asElemV (a p : Addr) (W : World) (ha : W.cell? a = some (.pointer (some p))) :
    (ReflectliteValue.method (ReflectliteValue.valueError "reflectlite.Value.Elem" 0) ReflectliteValue.elem #[rvV 98 a 150]).run Tryz.prog W
      = .ok (rvV 85 p 409) W := by
  rw [rlm]
  simp only [Sem.run_bind, asParts, Result.andThen]
  simp [ReflectliteValue.elem, loadVar, isAgg, underlying, Tryz.underlying98, ha, Result.andThen, asElemOf, asMk]
theorem rls (v x : Value) : ReflectliteValue.set #[v, x] = (do
    let (some (dst, a, fl), some (src, b, _)) := (← ReflectliteValue.parts v, ← ReflectliteValue.parts x)
      | unsupported (.noEntry "extern/(internal/reflectlite.Value).Set.zeroValue")
    if fl / ReflectliteValue.flagAddr % 2 == 0 then unsupported (.noEntry "extern/(internal/reflectlite.Value).Set.unaddressable")
    let val ← loadVar src b
    if ← Rtype.directlyAssignable dst src then storeVar dst a val
    else if ← Rtype.implements dst src then
      if (← Rtype.kind src) == 20 then
        match val with
        | .nilIface => unsupported (.noEntry "extern/reflectlite: a nil value of one interface type handed on as a value of another")
        | _ => storeVar dst a val
      else storeVar dst a (.iface src val)
    else panicString ("reflectlite.Set: value of type " ++ (← Rtype.spelt src) ++ " is not assignable to type " ++ (← Rtype.spelt dst))
    pure (.tuple #[])) := rfl
theorem asDirect (w : World) : (Rtype.directlyAssignable 85 85).run Tryz.prog w = .ok true w := by kernel_rfl
theorem asInfo : (Tryz.prog.info? 85).map (·.size) = some 1 := by kernel_rfl
theorem asSet (e old : Int) (gt gb : Nat) (W : World) (hb : W.heap[gb]? = some (.cells #[.int .i64 e] 85 (0, 0))) (ht : W.heap[gt]? = some (.cells #[.int .i64 old] 85 (0, 0))) :
    (ReflectliteValue.set #[rvV 85 ⟨gt, 0, none⟩ 409, rvV 85 ⟨gb, 0, none⟩ 153]).run Tryz.prog W
      = .ok (.tuple #[]) (W.setRow gt #[.int .i64 e]) := by
  have h1 := run_loadVar_row (P := Tryz.prog) W gb 85 85 #[.int .i64 e] (0, 0) _ hb Tryz.underlying85 rfl asInfo
  have h2 := run_storeVar_row (P := Tryz.prog) W gt 85 85 #[.int .i64 old] #[.int .i64 e] ht asInfo rfl (by simp [Value.oneCell'])
  rw [rls]
  simp only [Sem.run_bind, asParts1, asParts2, Result.andThen]
  simp [ReflectliteValue.flagAddr, h1, Result.andThen, asDirect, h2]
theorem asNoAs (T : TypeId) (hT : T = 85 ∨ T = 95) (v : Value) (xT : TypeId) (w : World) : (Instr.typeAssert (.iface T v) xT 149 true).run Tryz.prog w = .ok (.tuple #[.nilIface, .bool false]) w := by
  rcases hT with rfl | rfl
  · exact run_typeAssert_lacksB Tryz.underlying149 (by kernel_rfl) (by kernel_rfl) v xT w
  · exact run_typeAssert_lacksB Tryz.underlying149 (by kernel_rfl) (by kernel_rfl) v xT w
theorem asUnwraps (v : Value) (xT : TypeId) (w : World) : (Instr.typeAssert (.iface 95 v) xT 152 true).run Tryz.prog w = .ok (.tuple #[.iface 95 v, .bool true]) w := run_typeAssert_hasB Tryz.underlying152 (by kernel_rfl) v xT w
theorem asMU (v : Value) (w : World) : (Go.method 316 95 v "Unwrap").run Tryz.prog w = .ok (167, v) w := by kernel_rfl
set_option maxRecDepth 100000 in
theorem unwrap_any (p : Int) (v : Value) (w : World) : Calls Tryz.prog 167 #[.agg #[.int .i64 p, v]] w fun e w' => e = .returned v ∧ Below w.heap.size w w' := by
  go_enter Tryz.func167, Tryz.ntmps167
  go_wp2_with fail
  go_ret
  exact ⟨rfl, (Below.refl _ _).alloc (Nat.le_refl _) _⟩
end Go.Proofs.YtebhiplcoioenaaGreatDoor
