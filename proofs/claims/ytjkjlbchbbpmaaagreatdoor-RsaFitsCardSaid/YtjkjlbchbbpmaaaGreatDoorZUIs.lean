/- errors.Is at this package's errors, rsa.Fits: the walks. -/
import Derived.Test.YtjkjlbchbbpmaaaGreatDoorZUFits2
import Derived.Test.YtjkjlbchbbpmaaaGreatDoorZN3
namespace Go.Proofs.YtjkjlbchbbpmaaaGreatDoor
open Go.RowKit Go.Extern.Stop Go.Stop Go.Extern

theorem noneComp : (Tryz.prog.info? 79).map (·.comparable) = some true := by kernel_rfl
theorem noneTypeOf (v : Value) (w : World) : (callFunc 82 #[.iface 79 v]).run Tryz.prog w = .ok (.value (.iface 150 (.agg #[.pointer (some ⟨3, 79, none⟩)]))) w := by kernel_rfl
theorem noneComparable (w : World) : (callFunc 173 #[.agg #[.pointer (some ⟨3, 79, none⟩)]]).run Tryz.prog w = .ok (.value (.bool true)) w := by kernel_rfl
theorem reasonNoIs (v : Value) (xT : TypeId) (w : World) : (Instr.typeAssert (.iface 161 v) xT 152 true).run Tryz.prog w = .ok (.tuple #[.nilIface, .bool false]) w := run_typeAssert_lacksB Tryz.underlying152 (by kernel_rfl) (by kernel_rfl) v xT w
theorem reasonUnwraps (v : Value) (xT : TypeId) (w : World) : (Instr.typeAssert (.iface 161 v) xT 155 true).run Tryz.prog w = .ok (.tuple #[.iface 161 v, .bool true]) w := run_typeAssert_hasB Tryz.underlying155 (by kernel_rfl) v xT w
theorem isMethodUnwrap (v : Value) (w : World) : (Go.method 325 161 v "Unwrap").run Tryz.prog w = .ok (183, v) w := by kernel_rfl
theorem unwrap_any (why : ByteArray) (v : Value) (w : World) : Calls Tryz.prog 183 #[.agg #[.string why, v]] w fun e w' => e = .returned v ∧ Below w.heap.size w w' := by
  go_enter Tryz.func183, Tryz.ntmps183
  go_wp2_with fail
  go_ret
  exact ⟨rfl, (Below.refl _ _).alloc (Nat.le_refl _) _⟩

set_option maxRecDepth 100000 in
set_option maxHeartbeats 1600000 in
theorem eis_reason (why ns : ByteArray) (w : World) :
    Calls Tryz.prog 83 #[.iface 161 (.agg #[.string why, .iface 79 (.string ns)]), .iface 79 (.string ns), .bool true] w fun e w' => e = .returned (.bool true) ∧ Below w.heap.size w w' := by
  obtain ⟨i, hi, hcmp⟩ := Option.map_eq_some_iff.1 noneComp
  have nE := reasonNoIs
  have uE := reasonUnwraps
  have mU := isMethodUnwrap
  have heq : ∀ w, (binOp .eql 67 (.iface 79 (.string ns)) (.iface 79 (.string ns))).run Tryz.prog w = .ok (.bool true) w := fun w => by
    rw [run_eql_iface_str (P := Tryz.prog) w ns ns Tryz.underlying67 Tryz.underlying79 hi hcmp]; simp
  have hne : ∀ (v u : Value) w, (binOp .eql 67 (.iface 161 v) (.iface 79 u)).run Tryz.prog w = .ok (.bool false) w := fun v u w => run_eql_iface_types _ _ v u Tryz.underlying67 (by decide) w
  go_enter Tryz.func83, Tryz.ntmps83
  go_wp2_with fail
  refine wp_loop_rounds 2 ?_
  rw [rounds_succ]
  go_wp2_with fail
  refine (unwrap_any _ _ _).mono ?_
  rintro e w1 ⟨rfl, hb1⟩
  go_wp2_with fail
  rw [rounds_succ]
  go_wp2_with fail
  go_ret
  exact ⟨rfl, hb1⟩
set_option maxRecDepth 100000 in
set_option maxHeartbeats 1600000 in
theorem is_reason (why : ByteArray) (w : World) :
    Calls Tryz.prog 48 #[reasonV why, .iface 79 (.string noneS)] w fun e w' => e = .returned (.bool true) ∧ Below w.heap.size w w' := by
  have tT := noneTypeOf
  have cT := noneComparable
  have mR := isMethodComparable
  obtain ⟨ns, hns⟩ : ∃ ns, ns = noneS := ⟨_, rfl⟩
  have hne : ∀ (v u : Value) w, (binOp .eql 67 (.iface 161 v) (.iface 79 u)).run Tryz.prog w = .ok (.bool false) w := fun v u w => run_eql_iface_types _ _ v u Tryz.underlying67 (by decide) w
  unfold reasonV
  rw [← hns]
  clear hns
  go_enter Tryz.func48, Tryz.ntmps48
  go_wp2_with fail
  refine (eis_reason why ns _).mono ?_
  rintro e w1 ⟨rfl, hb1⟩
  go_wp2_with fail
  go_ret
  exact ⟨rfl, hb1⟩
set_option maxRecDepth 100000 in
theorem is_nil (w : World) :
    Calls Tryz.prog 48 #[.nilIface, .iface 79 (.string noneS)] w fun e w' => e = .returned (.bool false) ∧ w = w' := by
  obtain ⟨ns, hns⟩ : ∃ ns, ns = noneS := ⟨_, rfl⟩
  rw [← hns]
  clear hns
  have e1 : ∀ w, (binOp .eql 67 .nilIface .nilIface).run Tryz.prog w = .ok (.bool true) w := fun _ => by kernel_rfl
  have e2 : ∀ v w, (binOp .eql 67 .nilIface (.iface 79 v)).run Tryz.prog w = .ok (.bool false) w := fun _ _ => by kernel_rfl
  go_enter Tryz.func48, Tryz.ntmps48
  go_wp2_with fail
  go_ret
  exact ⟨rfl, rfl⟩

set_option maxRecDepth 100000 in
theorem Fits_core (s block : ByteArray) (b : Int) (w : World) (p : Prop) [Decidable p] (hf : ∀ w, Calls Tryz.prog 49 #[.string s, .string block, .int .i64 b] w (RetWhy p w)) :
    Calls Tryz.prog 22 #[.string s, .string block, .int .i64 b] w fun e w' => e = .returned (.bool (decide p)) ∧ Below w.heap.size w w' := by
  have hr := fun why w => is_reason why w
  have hn := is_nil
  have hnl : (⟨#[110, 111, 32, 115, 105, 103, 110, 97, 116, 117, 114, 101]⟩ : ByteArray) = noneS := rfl
  have HF := Lib.hid hf; have HR := Lib.hid hr; have HN := Lib.hid hn
  clear hf hr hn
  go_enter Tryz.func22, Tryz.ntmps22
  go_wp2_with fail
  refine (HF.out _).mono ?_
  rintro e w1 ⟨⟨hp, rfl⟩ | ⟨hp, why, rfl⟩, hb1⟩
  · have HD := Lib.hid (decide_eq_true hp)
    clear hp
    go_wp2_with fail
    refine (HN.out _).mono ?_
    rintro e w2 ⟨rfl, rfl⟩
    go_wp2_with fail
    go_ret
    exact ⟨by rw [HD.out]; rfl, hb1⟩
  · have HD := Lib.hid (decide_eq_false hp)
    clear hp
    go_wp2_with fail
    refine (HR.out why _).mono ?_
    rintro e w2 ⟨rfl, hb2⟩
    have hres := hb1.trans (hb2.mono hb1.size)
    go_wp2_with fail
    go_ret
    exact ⟨by rw [HD.out]; rfl, hres⟩
end Go.Proofs.YtjkjlbchbbpmaaaGreatDoor
