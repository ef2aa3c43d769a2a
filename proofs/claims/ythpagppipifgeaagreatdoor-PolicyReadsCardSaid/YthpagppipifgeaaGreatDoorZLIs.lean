/- errors.Is at this package's errors. -/
import Derived.Test.YthpagppipifgeaaGreatDoorZLWord
import Derived.Stop.Asserts
import Derived.LaidEql
import Derived.RowKitTokens
import Derived.StillTailTactics
namespace Go.Proofs.YthpagppipifgeaaGreatDoor
open Go.RowKit Go.Extern.Stop Go.Stop Go.Extern

section
variable {P : Program} (w : World)
theorem run_equalIn_iface_str (d : Nat) {ti tn : TypeId} {ms : Array (String × TypeId)} {i : TypeInfo} (a b : ByteArray)
    (hi : P.underlying ti = some (.interface ms)) (hn : P.underlying tn = some .string) (hinfo : P.info? tn = some i) (hcomp : i.comparable = true) :
    (Op.equalIn (d + 2) ti (.iface tn (.string a)) (.iface tn (.string b))).run P w = .ok (a.toList == b.toList) w := by
  simp [Op.equalIn, run_underlying hi, run_underlying hn, typeInfo, hinfo, hcomp, beq_toListBytes]
/-- '==' of two errors of one string type: as the strings are. -/
theorem run_eql_iface_str {ti tn : TypeId} {ms : Array (String × TypeId)} {i : TypeInfo} (a b : ByteArray)
    (hi : P.underlying ti = some (.interface ms)) (hn : P.underlying tn = some .string) (hinfo : P.info? tn = some i) (hcomp : i.comparable = true) :
    (binOp .eql ti (.iface tn (.string a)) (.iface tn (.string b))).run P w = .ok (.bool (a.toList == b.toList)) w := by
  simp only [binOp]
  simp [Op.equal, Op.maxDepth, run_equalIn_iface_str w 9998 a b hi hn hinfo hcomp]
end
theorem isMethodComparable (v : Value) (w : World) : (Go.method 356 126 v "Comparable").run Tryz.prog w = .ok (170, v) w := by kernel_rfl
theorem noneComp : (Tryz.prog.info? 57).map (·.comparable) = some true := by kernel_rfl
theorem noneTypeOf (v : Value) (w : World) : (callFunc 61 #[.iface 57 v]).run Tryz.prog w = .ok (.value (.iface 126 (.agg #[.pointer (some ⟨3, 57, none⟩)]))) w := by kernel_rfl
theorem noneComparable (w : World) : (callFunc 170 #[.agg #[.pointer (some ⟨3, 57, none⟩)]]).run Tryz.prog w = .ok (.value (.bool true)) w := by kernel_rfl
theorem reasonNoIs (v : Value) (xT : TypeId) (w : World) : (Instr.typeAssert (.iface 80 v) xT 128 true).run Tryz.prog w = .ok (.tuple #[.nilIface, .bool false]) w := run_typeAssert_lacksB Tryz.underlying128 (by kernel_rfl) (by kernel_rfl) v xT w
theorem reasonUnwraps (v : Value) (xT : TypeId) (w : World) : (Instr.typeAssert (.iface 80 v) xT 131 true).run Tryz.prog w = .ok (.tuple #[.iface 80 v, .bool true]) w := run_typeAssert_hasB Tryz.underlying131 (by kernel_rfl) v xT w
theorem isMethodUnwrap (v : Value) (w : World) : (Go.method 356 80 v "Unwrap").run Tryz.prog w = .ok (165, v) w := by kernel_rfl
theorem unwrap_any (why : ByteArray) (v : Value) (w : World) : Calls Tryz.prog 165 #[.agg #[.string why, v]] w fun e w' => e = .returned v ∧ Below w.heap.size w w' := by
  go_enter Tryz.func165, Tryz.ntmps165
  go_wp2_with fail
  go_ret
  exact ⟨rfl, (Below.refl _ _).alloc (Nat.le_refl _) _⟩

set_option maxRecDepth 100000 in
set_option maxHeartbeats 1600000 in
theorem eis_reason (why ns : ByteArray) (w : World) :
    Calls Tryz.prog 62 #[.iface 80 (.agg #[.string why, .iface 57 (.string ns)]), .iface 57 (.string ns), .bool true] w fun e w' => e = .returned (.bool true) ∧ Below w.heap.size w w' := by
  obtain ⟨i, hi, hcmp⟩ := Option.map_eq_some_iff.1 noneComp
  have nE := reasonNoIs
  have uE := reasonUnwraps
  have mU := isMethodUnwrap
  have heq : ∀ w, (binOp .eql 53 (.iface 57 (.string ns)) (.iface 57 (.string ns))).run Tryz.prog w = .ok (.bool true) w := fun w => by
    rw [run_eql_iface_str (P := Tryz.prog) w ns ns Tryz.underlying53 Tryz.underlying57 hi hcmp]; simp
  have hne : ∀ (v u : Value) w, (binOp .eql 53 (.iface 80 v) (.iface 57 u)).run Tryz.prog w = .ok (.bool false) w := fun v u w => run_eql_iface_types _ _ v u Tryz.underlying53 (by decide) w
  go_enter Tryz.func62, Tryz.ntmps62
  go_wp2_with fail
  refine wp_loop_rounds 2 ?_
  rw [rounds_succ]
  go_wp2_with fail
  refine (unwrap_any _ _ _).mono ?_
  rintro e w1 ⟨rfl, hb1⟩
  go_wp2_with fail
  rw [rounds_succ]
  go_wp2_with fail
  go_ret
  exact ⟨rfl, hb1⟩
set_option maxRecDepth 100000 in
set_option maxHeartbeats 1600000 in
theorem eis_reason2 (why wh2 ns : ByteArray) (w : World) :
    Calls Tryz.prog 62 #[.iface 80 (.agg #[.string why, .iface 80 (.agg #[.string wh2, .iface 57 (.string ns)])]), .iface 57 (.string ns), .bool true] w fun e w' => e = .returned (.bool true) ∧ Below w.heap.size w w' := by
  obtain ⟨i, hi, hcmp⟩ := Option.map_eq_some_iff.1 noneComp
  have nE := reasonNoIs
  have uE := reasonUnwraps
  have mU := isMethodUnwrap
  have heq : ∀ w, (binOp .eql 53 (.iface 57 (.string ns)) (.iface 57 (.string ns))).run Tryz.prog w = .ok (.bool true) w := fun w => by
    rw [run_eql_iface_str (P := Tryz.prog) w ns ns Tryz.underlying53 Tryz.underlying57 hi hcmp]; simp
  have hne : ∀ (v u : Value) w, (binOp .eql 53 (.iface 80 v) (.iface 57 u)).run Tryz.prog w = .ok (.bool false) w := fun v u w => run_eql_iface_types _ _ v u Tryz.underlying53 (by decide) w
  go_enter Tryz.func62, Tryz.ntmps62
  go_wp2_with fail
  refine wp_loop_rounds 3 ?_
  rw [rounds_succ]
  go_wp2_with fail
  refine (unwrap_any _ _ _).mono ?_
  rintro e w1 ⟨rfl, hb1⟩
  go_wp2_with fail
  rw [rounds_succ]
  go_wp2_with fail
  refine (unwrap_any _ _ _).mono ?_
  rintro e w2 ⟨rfl, hb2⟩
  go_wp2_with fail
  rw [rounds_succ]
  go_wp2_with fail
  go_ret
  exact ⟨rfl, b_trans hb1 hb2⟩
set_option maxRecDepth 100000 in
set_option maxHeartbeats 1600000 in
theorem is_reason (why : ByteArray) (w : World) :
    Calls Tryz.prog 35 #[wrapV why, .iface 57 (.string noS)] w fun e w' => e = .returned (.bool true) ∧ Below w.heap.size w w' := by
  have tT := noneTypeOf
  have cT := noneComparable
  have mR := isMethodComparable
  obtain ⟨ns, hns⟩ : ∃ ns, ns = noS := ⟨_, rfl⟩
  have hne : ∀ (v u : Value) w, (binOp .eql 53 (.iface 80 v) (.iface 57 u)).run Tryz.prog w = .ok (.bool false) w := fun v u w => run_eql_iface_types _ _ v u Tryz.underlying53 (by decide) w
  unfold wrapV
  rw [← hns]
  clear hns
  go_enter Tryz.func35, Tryz.ntmps35
  go_wp2_with fail
  refine (eis_reason why ns _).mono ?_
  rintro e w1 ⟨rfl, hb1⟩
  go_wp2_with fail
  go_ret
  exact ⟨rfl, hb1⟩
set_option maxRecDepth 100000 in
set_option maxHeartbeats 1600000 in
theorem is_reason2 (why wh2 : ByteArray) (w : World) :
    Calls Tryz.prog 35 #[.iface 80 (.agg #[.string why, wrapV wh2]), .iface 57 (.string noS)] w fun e w' => e = .returned (.bool true) ∧ Below w.heap.size w w' := by
  have tT := noneTypeOf
  have cT := noneComparable
  have mR := isMethodComparable
  obtain ⟨ns, hns⟩ : ∃ ns, ns = noS := ⟨_, rfl⟩
  have hne : ∀ (v u : Value) w, (binOp .eql 53 (.iface 80 v) (.iface 57 u)).run Tryz.prog w = .ok (.bool false) w := fun v u w => run_eql_iface_types _ _ v u Tryz.underlying53 (by decide) w
  unfold wrapV
  rw [← hns]
  clear hns
  go_enter Tryz.func35, Tryz.ntmps35
  go_wp2_with fail
  refine (eis_reason2 why wh2 ns _).mono ?_
  rintro e w1 ⟨rfl, hb1⟩
  go_wp2_with fail
  go_ret
  exact ⟨rfl, hb1⟩
set_option maxRecDepth 100000 in
theorem is_nil (w : World) :
    Calls Tryz.prog 35 #[.nilIface, .iface 57 (.string noS)] w fun e w' => e = .returned (.bool false) ∧ w = w' := by
  obtain ⟨ns, hns⟩ : ∃ ns, ns = noS := ⟨_, rfl⟩
  rw [← hns]
  clear hns
  have e1 : ∀ w, (binOp .eql 53 .nilIface .nilIface).run Tryz.prog w = .ok (.bool true) w := fun _ => by kernel_rfl
  have e2 : ∀ v w, (binOp .eql 53 .nilIface (.iface 57 v)).run Tryz.prog w = .ok (.bool false) w := fun _ _ => by kernel_rfl
  go_enter Tryz.func35, Tryz.ntmps35
  go_wp2_with fail
  go_ret
  exact ⟨rfl, rfl⟩

end Go.Proofs.YthpagppipifgeaaGreatDoor
