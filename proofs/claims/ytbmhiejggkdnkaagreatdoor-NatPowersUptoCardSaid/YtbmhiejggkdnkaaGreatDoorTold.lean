/- errors.Is at this package's errors, told, answered: the walks. -/
import Derived.Test.YtbmhiejggkdnkaaGreatDoorForm
import Derived.Test.YtbmhiejggkdnkaaGreatDoorChecked
import Derived.LaidEql
import Derived.Stop.Asserts
import Derived.RowKitTokens
namespace Go.Proofs.YtbmhiejggkdnkaaGreatDoor
open Go.RowKit Go.Extern.Stop Go.Stop Go.Extern

section
variable {P : Program} (w : World)
theorem run_equalIn_iface_str (d : Nat) {ti tn : TypeId} {ms : Array (String × TypeId)} {i : TypeInfo} (a b : ByteArray)
    (hi : P.underlying ti = some (.interface ms)) (hn : P.underlying tn = some .string) (hinfo : P.info? tn = some i) (hcomp : i.comparable = true) :
    (Op.equalIn (d + 2) ti (.iface tn (.string a)) (.iface tn (.string b))).run P w = .ok (a.toList == b.toList) w := by
  simp [Op.equalIn, run_underlying hi, run_underlying hn, typeInfo, hinfo, hcomp, beq_toListBytes]
/-- '==' of two errors of one string type: as the strings are. -/
theorem run_eql_iface_str {ti tn : TypeId} {ms : Array (String × TypeId)} {i : TypeInfo} (a b : ByteArray)
    (hi : P.underlying ti = some (.interface ms)) (hn : P.underlying tn = some .string) (hinfo : P.info? tn = some i) (hcomp : i.comparable = true) :
    (binOp .eql ti (.iface tn (.string a)) (.iface tn (.string b))).run P w = .ok (.bool (a.toList == b.toList)) w := by
  simp only [binOp]
  simp [Op.equal, Op.maxDepth, run_equalIn_iface_str w 9998 a b hi hn hinfo hcomp]
end

theorem isComp : (Tryz.prog.info? 72).map (·.comparable) = some true := by kernel_rfl
theorem noIs (v : Value) (xT : TypeId) (w : World) : (Instr.typeAssert (.iface 72 v) xT 121 true).run Tryz.prog w = .ok (.tuple #[.nilIface, .bool false]) w := run_typeAssert_lacksB Tryz.underlying121 (by kernel_rfl) (by kernel_rfl) v xT w
theorem noUnwrap (v : Value) (xT : TypeId) (w : World) : (Instr.typeAssert (.iface 72 v) xT 124 true).run Tryz.prog w = .ok (.tuple #[.nilIface, .bool false]) w := run_typeAssert_lacksB Tryz.underlying124 (by kernel_rfl) (by kernel_rfl) v xT w
theorem noUnwraps (v : Value) (xT : TypeId) (w : World) : (Instr.typeAssert (.iface 72 v) xT 126 true).run Tryz.prog w = .ok (.tuple #[.nilIface, .bool false]) w := run_typeAssert_lacksB Tryz.underlying126 (by kernel_rfl) (by kernel_rfl) v xT w
theorem callTypeOf (v : Value) (w : World) : (callFunc 79 #[.iface 72 v]).run Tryz.prog w = .ok (.value (.iface 119 (.agg #[.pointer (some ⟨3, 72, none⟩)]))) w := by kernel_rfl
theorem isMethodComparable (v : Value) (w : World) : (Go.method 269 119 v "Comparable").run Tryz.prog w = .ok (121, v) w := by kernel_rfl
theorem callComparable (w : World) : (callFunc 121 #[.agg #[.pointer (some ⟨3, 72, none⟩)]]).run Tryz.prog w = .ok (.value (.bool true)) w := by kernel_rfl

set_option maxRecDepth 100000 in
theorem is_any (a b : ByteArray) (w : World) :
    Calls Tryz.prog 56 #[.iface 72 (.string a), .iface 72 (.string b)] w fun e w' => e = .returned (.bool (a.toList == b.toList)) ∧ w = w' := by
  obtain ⟨i, hi, hcmp⟩ := Option.map_eq_some_iff.1 isComp
  have tT := callTypeOf
  have cT := callComparable
  have mR := isMethodComparable
  have nE := noIs
  have uE := noUnwrap
  have vE := noUnwraps
  have heq := run_eql_iface_str (P := Tryz.prog) w a b Tryz.underlying47 Tryz.underlying72 hi hcmp
  obtain ⟨r, hr⟩ : ∃ r, r = (a.toList == b.toList) := ⟨_, rfl⟩
  rw [← hr] at heq ⊢
  clear hr
  go_enter Tryz.func56, Tryz.ntmps56
  go_wp2
  refine wp_loop_rounds 1 ?_
  rw [rounds_succ]
  cases r
  · go_wp2
    go_ret
    exact ⟨rfl, rfl⟩
  · go_wp2
    go_ret
    exact ⟨rfl, rfl⟩
end Go.Proofs.YtbmhiejggkdnkaaGreatDoor
