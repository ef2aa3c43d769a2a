/- errors.Is at this package's errors, told, answered: the walks. -/
import Derived.Test.YtbmhiejggkdnkaaDoorForm
import Derived.Test.YtbmhiejggkdnkaaDoorChecked
import Derived.LaidEql
import Derived.Stop.Asserts
import Derived.RowKitTokens
namespace Go.Proofs.YtbmhiejggkdnkaaDoor
open Go.RowKit Go.Extern.Stop Go.Stop Go.Extern

section
variable {P : Program} (w : World)
theorem run_equalIn_iface_str (d : Nat) {ti tn : TypeId} {ms : Array (String × TypeId)} {i : TypeInfo} (a b : ByteArray)
    (hi : P.underlying ti = some (.interface ms)) (hn : P.underlying tn = some .string) (hinfo : P.info? tn = some i) (hcomp : i.comparable = true) :
    (Op.equalIn (d + 2) ti (.iface tn (.string a)) (.iface tn (.string b))).run P w = .ok (a.toList == b.toList) w := by
  simp [Op.equalIn, run_underlying hi, run_underlying hn, typeInfo, hinfo, hcomp, beq_toListBytes]
/-- '==' of two errors of one string type: as the strings are. -/
theorem run_eql_iface_str {ti tn : TypeId} {ms : Array (String × TypeId)} {i : TypeInfo} (a b : ByteArray)
    (hi : P.underlying ti = some (.interface ms)) (hn : P.underlying tn = some .string) (hinfo : P.info? tn = some i) (hcomp : i.comparable = true) :
    (binOp .eql ti (.iface tn (.string a)) (.iface tn (.string b))).run P w = .ok (.bool (a.toList == b.toList)) w := by
  simp only [binOp]
  simp [Op.equal, Op.maxDepth, run_equalIn_iface_str w 9998 a b hi hn hinfo hcomp]
end

theorem isComp : (Tryd.prog.info? 74).map (·.comparable) = some true := by kernel_rfl
theorem noIs (v : Value) (xT : TypeId) (w : World) : (Instr.typeAssert (.iface 74 v) xT 122 true).run Tryd.prog w = .ok (.tuple #[.nilIface, .bool false]) w := run_typeAssert_lacksB Tryd.underlying122 (by kernel_rfl) (by kernel_rfl) v xT w
theorem noUnwrap (v : Value) (xT : TypeId) (w : World) : (Instr.typeAssert (.iface 74 v) xT 125 true).run Tryd.prog w = .ok (.tuple #[.nilIface, .bool false]) w := run_typeAssert_lacksB Tryd.underlying125 (by kernel_rfl) (by kernel_rfl) v xT w
theorem noUnwraps (v : Value) (xT : TypeId) (w : World) : (Instr.typeAssert (.iface 74 v) xT 127 true).run Tryd.prog w = .ok (.tuple #[.nilIface, .bool false]) w := run_typeAssert_lacksB Tryd.underlying127 (by kernel_rfl) (by kernel_rfl) v xT w
theorem callTypeOf (v : Value) (w : World) : (callFunc 80 #[.iface 74 v]).run Tryd.prog w = .ok (.value (.iface 120 (.agg #[.pointer (some ⟨3, 74, none⟩)]))) w := by kernel_rfl
theorem isMethodComparable (v : Value) (w : World) : (Go.method 269 120 v "Comparable").run Tryd.prog w = .ok (119, v) w := by kernel_rfl
theorem callComparable (w : World) : (callFunc 119 #[.agg #[.pointer (some ⟨3, 74, none⟩)]]).run Tryd.prog w = .ok (.value (.bool true)) w := by kernel_rfl

set_option maxRecDepth 100000 in
theorem is_any (a b : ByteArray) (w : World) :
    Calls Tryd.prog 56 #[.iface 74 (.string a), .iface 74 (.string b)] w fun e w' => e = .returned (.bool (a.toList == b.toList)) ∧ w = w' := by
  obtain ⟨i, hi, hcmp⟩ := Option.map_eq_some_iff.1 isComp
  have tT := callTypeOf
  have cT := callComparable
  have mR := isMethodComparable
  have nE := noIs
  have uE := noUnwrap
  have vE := noUnwraps
  have heq := run_eql_iface_str (P := Tryd.prog) w a b Tryd.underlying51 Tryd.underlying74 hi hcmp
  obtain ⟨r, hr⟩ : ∃ r, r = (a.toList == b.toList) := ⟨_, rfl⟩
  rw [← hr] at heq ⊢
  clear hr
  go_enter Tryd.func56, Tryd.ntmps56
  go_wp2
  refine wp_loop_rounds 1 ?_
  rw [rounds_succ]
  cases r
  · go_wp2
    go_ret
    exact ⟨rfl, rfl⟩
  · go_wp2
    go_ret
    exact ⟨rfl, rfl⟩
end Go.Proofs.YtbmhiejggkdnkaaDoor
