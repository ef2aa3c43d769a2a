/- errors.Is at this package's errors; told. -/
import Derived.Test.YtipjkjcmceeaeaaGreatDoorYRws
import Derived.Stop.Asserts
import Derived.LaidEql
import Derived.RowKitTokens
import Derived.StillTailTactics
namespace Go.Proofs.YtipjkjcmceeaeaaGreatDoor
open Go.RowKit Go.Extern.Stop Go.Stop Go.Extern

section
variable {P : Program} (w : World)
theorem run_equalIn_iface_str (d : Nat) {ti tn : TypeId} {ms : Array (String × TypeId)} {i : TypeInfo} (a b : ByteArray)
    (hi : P.underlying ti = some (.interface ms)) (hn : P.underlying tn = some .string) (hinfo : P.info? tn = some i) (hcomp : i.comparable = true) :
    (Op.equalIn (d + 2) ti (.iface tn (.string a)) (.iface tn (.string b))).run P w = .ok (a.toList == b.toList) w := by
  simp [Op.equalIn, run_underlying hi, run_underlying hn, typeInfo, hinfo, hcomp, beq_toListBytes]
/-- '==' of two errors of one string type: as the strings are. -/
theorem run_eql_iface_str {ti tn : TypeId} {ms : Array (String × TypeId)} {i : TypeInfo} (a b : ByteArray)
    (hi : P.underlying ti = some (.interface ms)) (hn : P.underlying tn = some .string) (hinfo : P.info? tn = some i) (hcomp : i.comparable = true) :
    (binOp .eql ti (.iface tn (.string a)) (.iface tn (.string b))).run P w = .ok (.bool (a.toList == b.toList)) w := by
  simp only [binOp]
  simp [Op.equal, Op.maxDepth, run_equalIn_iface_str w 9998 a b hi hn hinfo hcomp]
end
@[reducible] def lkV (s : ByteArray) : Value := .iface 65 (.string s)
@[reducible] def wrV (why s : ByteArray) : Value := .iface 78 (.agg #[.string why, lkV s])
theorem isMethodComparable (v : Value) (w : World) : (Go.method 300 121 v "Comparable").run Tryz.prog w = .ok (159, v) w := by kernel_rfl
theorem lackComp : (Tryz.prog.info? 65).map (·.comparable) = some true := by kernel_rfl
theorem lackTypeOf (v : Value) (w : World) : (callFunc 87 #[.iface 65 v]).run Tryz.prog w = .ok (.value (.iface 121 (.agg #[.pointer (some ⟨8, 65, none⟩)]))) w := by kernel_rfl
theorem lackComparable (w : World) : (callFunc 159 #[.agg #[.pointer (some ⟨8, 65, none⟩)]]).run Tryz.prog w = .ok (.value (.bool true)) w := by kernel_rfl
theorem wrNoIs (v : Value) (xT : TypeId) (w : World) : (Instr.typeAssert (.iface 78 v) xT 123 true).run Tryz.prog w = .ok (.tuple #[.nilIface, .bool false]) w := run_typeAssert_lacksB Tryz.underlying123 (by kernel_rfl) (by kernel_rfl) v xT w
theorem wrUnwraps (v : Value) (xT : TypeId) (w : World) : (Instr.typeAssert (.iface 78 v) xT 126 true).run Tryz.prog w = .ok (.tuple #[.iface 78 v, .bool true]) w := run_typeAssert_hasB Tryz.underlying126 (by kernel_rfl) v xT w
theorem lkNoIs (v : Value) (xT : TypeId) (w : World) : (Instr.typeAssert (.iface 65 v) xT 123 true).run Tryz.prog w = .ok (.tuple #[.nilIface, .bool false]) w := run_typeAssert_lacksB Tryz.underlying123 (by kernel_rfl) (by kernel_rfl) v xT w
theorem lkNoUnwrap (v : Value) (xT : TypeId) (w : World) : (Instr.typeAssert (.iface 65 v) xT 126 true).run Tryz.prog w = .ok (.tuple #[.nilIface, .bool false]) w := run_typeAssert_lacksB Tryz.underlying126 (by kernel_rfl) (by kernel_rfl) v xT w
theorem lkNoUnwraps (v : Value) (xT : TypeId) (w : World) : (Instr.typeAssert (.iface 65 v) xT 128 true).run Tryz.prog w = .ok (.tuple #[.nilIface, .bool false]) w := run_typeAssert_lacksB Tryz.underlying128 (by kernel_rfl) (by kernel_rfl) v xT w
theorem isMethodUnwrap (v : Value) (w : World) : (Go.method 300 78 v "Unwrap").run Tryz.prog w = .ok (154, v) w := by kernel_rfl
theorem unwrap_any (why : ByteArray) (v : Value) (w : World) : Calls Tryz.prog 154 #[.agg #[.string why, v]] w fun e w' => e = .returned v ∧ Below w.heap.size w w' := by
  go_enter Tryz.func154, Tryz.ntmps154
  go_wp2_with fail
  go_ret
  exact ⟨rfl, (Below.refl _ _).alloc (Nat.le_refl _) _⟩
set_option maxRecDepth 100000 in
set_option maxHeartbeats 1600000 in
theorem eis_lk (s t : ByteArray) (w : World) :
    Calls Tryz.prog 88 #[.iface 65 (.string s), .iface 65 (.string t), .bool true] w fun e w' => e = .returned (.bool (s.toList == t.toList)) ∧ Below w.heap.size w w' := by
  obtain ⟨i, hi, hcmp⟩ := Option.map_eq_some_iff.1 lackComp
  have n1 := lkNoIs
  have n2 := lkNoUnwrap
  have n3 := lkNoUnwraps
  have heq : ∀ w, (binOp .eql 59 (.iface 65 (.string s)) (.iface 65 (.string t))).run Tryz.prog w = .ok (.bool (s.toList == t.toList)) w := fun w => by
    rw [run_eql_iface_str (P := Tryz.prog) w s t Tryz.underlying59 Tryz.underlying65 hi hcmp]
  cases hb : (s.toList == t.toList) with
  | true =>
    rw [hb] at heq
    clear hb
    go_enter Tryz.func88, Tryz.ntmps88
    go_wp2_with fail
    refine wp_loop_rounds 1 ?_
    rw [rounds_succ]
    go_wp2_with fail
    go_ret
    exact ⟨rfl, Below.refl _ _⟩
  | false =>
    rw [hb] at heq
    clear hb
    go_enter Tryz.func88, Tryz.ntmps88
    go_wp2_with fail
    refine wp_loop_rounds 1 ?_
    rw [rounds_succ]
    go_wp2_with fail
    go_ret
    exact ⟨rfl, Below.refl _ _⟩
set_option maxRecDepth 100000 in
set_option maxHeartbeats 1600000 in
theorem eis_wr (why s t : ByteArray) (w : World) :
    Calls Tryz.prog 88 #[.iface 78 (.agg #[.string why, .iface 65 (.string s)]), .iface 65 (.string t), .bool true] w fun e w' => e = .returned (.bool (s.toList == t.toList)) ∧ Below w.heap.size w w' := by
  obtain ⟨i, hi, hcmp⟩ := Option.map_eq_some_iff.1 lackComp
  have n1 := lkNoIs
  have n2 := lkNoUnwrap
  have n3 := lkNoUnwraps
  have nE := wrNoIs
  have uE := wrUnwraps
  have mU := isMethodUnwrap
  have heq : ∀ w, (binOp .eql 59 (.iface 65 (.string s)) (.iface 65 (.string t))).run Tryz.prog w = .ok (.bool (s.toList == t.toList)) w := fun w => by
    rw [run_eql_iface_str (P := Tryz.prog) w s t Tryz.underlying59 Tryz.underlying65 hi hcmp]
  have hne : ∀ (v u : Value) w, (binOp .eql 59 (.iface 78 v) (.iface 65 u)).run Tryz.prog w = .ok (.bool false) w := fun v u w => run_eql_iface_types _ _ v u Tryz.underlying59 (by decide) w
  cases hb : (s.toList == t.toList) with
  | true =>
    rw [hb] at heq
    clear hb
    go_enter Tryz.func88, Tryz.ntmps88
    go_wp2_with fail
    refine wp_loop_rounds 2 ?_
    rw [rounds_succ]
    go_wp2_with fail
    refine (unwrap_any _ _ _).mono ?_
    rintro e w1 ⟨rfl, hb1⟩
    go_wp2_with fail
    rw [rounds_succ]
    go_wp2_with fail
    go_ret
    exact ⟨rfl, hb1⟩
  | false =>
    rw [hb] at heq
    clear hb
    go_enter Tryz.func88, Tryz.ntmps88
    go_wp2_with fail
    refine wp_loop_rounds 2 ?_
    rw [rounds_succ]
    go_wp2_with fail
    refine (unwrap_any _ _ _).mono ?_
    rintro e w1 ⟨rfl, hb1⟩
    go_wp2_with fail
    rw [rounds_succ]
    go_wp2_with fail
    go_ret
    exact ⟨rfl, hb1⟩
set_option maxRecDepth 100000 in
set_option maxHeartbeats 1600000 in
theorem is_lk (s t : ByteArray) (w : World) :
    Calls Tryz.prog 58 #[.iface 65 (.string s), .iface 65 (.string t)] w fun e w' => e = .returned (.bool (s.toList == t.toList)) ∧ Below w.heap.size w w' := by
  have tT := lackTypeOf
  have cT := lackComparable
  have mR := isMethodComparable
  have hne : ∀ (v : Value) w, (binOp .eql 59 (.iface 65 v) .nilIface).run Tryz.prog w = .ok (.bool false) w := fun _ _ => by kernel_rfl
  go_enter Tryz.func58, Tryz.ntmps58
  go_wp2_with fail
  refine (eis_lk s t _).mono ?_
  rintro e w1 ⟨rfl, hb1⟩
  go_wp2_with fail
  go_ret
  exact ⟨rfl, hb1⟩
set_option maxRecDepth 100000 in
set_option maxHeartbeats 1600000 in
theorem is_wr (why s t : ByteArray) (w : World) :
    Calls Tryz.prog 58 #[.iface 78 (.agg #[.string why, .iface 65 (.string s)]), .iface 65 (.string t)] w fun e w' => e = .returned (.bool (s.toList == t.toList)) ∧ Below w.heap.size w w' := by
  have tT := lackTypeOf
  have cT := lackComparable
  have mR := isMethodComparable
  go_enter Tryz.func58, Tryz.ntmps58
  go_wp2_with fail
  refine (eis_wr why s t _).mono ?_
  rintro e w1 ⟨rfl, hb1⟩
  go_wp2_with fail
  go_ret
  exact ⟨rfl, hb1⟩
set_option maxRecDepth 100000 in
theorem is_nil (t : ByteArray) (w : World) :
    Calls Tryz.prog 58 #[.nilIface, .iface 65 (.string t)] w fun e w' => e = .returned (.bool false) ∧ Below w.heap.size w w' := by
  have e1 : ∀ w, (binOp .eql 59 .nilIface .nilIface).run Tryz.prog w = .ok (.bool true) w := fun _ => by kernel_rfl
  have e2 : ∀ v w, (binOp .eql 59 .nilIface (.iface 65 v)).run Tryz.prog w = .ok (.bool false) w := fun _ _ => by kernel_rfl
  go_enter Tryz.func58, Tryz.ntmps58
  go_wp2_with fail
  go_ret
  exact ⟨rfl, Below.refl _ _⟩
def sHead : ByteArray := ⟨#[97, 32, 104, 101, 97, 100, 32, 116, 104, 97, 116, 32, 105, 115, 32, 110, 111, 116, 32, 114, 105, 103, 104, 116]⟩
def sLong : ByteArray := ⟨#[116, 111, 111, 32, 108, 111, 110, 103]⟩
def sBody : ByteArray := ⟨#[97, 32, 98, 111, 100, 121, 32, 116, 104, 97, 116, 32, 105, 115, 32, 110, 111, 116, 32, 114, 105, 103, 104, 116]⟩
/-- What an error tells. -/
def ErrV (v : Value) (c : Int) : Prop := (v = .nilIface ∧ c = 0) ∨ ∃ s, (v = lkV s ∨ ∃ why, v = wrV why s) ∧ ((s = sHead ∧ c = 151) ∨ (s = sLong ∧ c = 152) ∨ (s = sBody ∧ c = 153))
theorem eis_any {v : Value} {c : Int} (h : ErrV v c) : ∃ b1 b2 b3 : Bool, (c = if b1 then 151 else if b2 then 152 else if b3 then 153 else 0) ∧
    (∀ w, Calls Tryz.prog 58 #[v, lkV sHead] w fun e w' => e = .returned (.bool b1) ∧ Below w.heap.size w w') ∧
    (∀ w, Calls Tryz.prog 58 #[v, lkV sLong] w fun e w' => e = .returned (.bool b2) ∧ Below w.heap.size w w') ∧
    (∀ w, Calls Tryz.prog 58 #[v, lkV sBody] w fun e w' => e = .returned (.bool b3) ∧ Below w.heap.size w w') := by
  rcases h with ⟨rfl, rfl⟩ | ⟨s, hv, hs⟩
  · exact ⟨false, false, false, rfl, fun w => is_nil _ w, fun w => is_nil _ w, fun w => is_nil _ w⟩
  · refine ⟨s.toList == sHead.toList, s.toList == sLong.toList, s.toList == sBody.toList, ?_, ?_⟩
    · rcases hs with ⟨rfl, rfl⟩ | ⟨rfl, rfl⟩ | ⟨rfl, rfl⟩
      · rw [if_pos (by simp)]
      · rw [if_neg (by decide +kernel), if_pos (by simp)]
      · rw [if_neg (by decide +kernel), if_neg (by decide +kernel), if_pos (by simp)]
    · rcases hv with rfl | ⟨why, rfl⟩
      · exact ⟨fun w => is_lk _ _ w, fun w => is_lk _ _ w, fun w => is_lk _ _ w⟩
      · exact ⟨fun w => is_wr _ _ _ w, fun w => is_wr _ _ _ w, fun w => is_wr _ _ _ w⟩
set_option maxRecDepth 100000 in
set_option maxHeartbeats 1600000 in
theorem told_any (v : Value) (c : Int) (w : World) (h : ErrV v c) : Calls Tryz.prog 30 #[v] w (RetI c w) := by
  obtain ⟨b1, b2, b3, hc, h1, h2, h3⟩ := eis_any h
  have H1 := Lib.hid h1; have H2 := Lib.hid h2; have H3 := Lib.hid h3; have HC := Lib.hid hc
  clear h h1 h2 h3 hc
  simp only [lkV, sHead, sLong, sBody] at H1 H2 H3
  cases b1 <;> cases b2 <;> cases b3
  all_goals
    go_enter Tryz.func30, Tryz.ntmps30
    go_wp2_with (first
      | (go_at_call_of 58 (Value.string ⟨#[97, 32, 104, 101, 97, 100, 32, 116, 104, 97, 116, 32, 105, 115, 32, 110, 111, 116, 32, 114, 105, 103, 104, 116]⟩); refine (H1.out _).mono ?_; rintro e w1 ⟨rfl, hb1⟩)
      | (go_at_call_of 58 (Value.string ⟨#[116, 111, 111, 32, 108, 111, 110, 103]⟩); refine (H2.out _).mono ?_; rintro e w2 ⟨rfl, hb2⟩)
      | (go_at_call_of 58 (Value.string ⟨#[97, 32, 98, 111, 100, 121, 32, 116, 104, 97, 116, 32, 105, 115, 32, 110, 111, 116, 32, 114, 105, 103, 104, 116]⟩); refine (H3.out _).mono ?_; rintro e w3 ⟨rfl, hb3⟩))
    go_ret
    rw [HC.out]
    first
      | exact ⟨rfl, hb1⟩
      | exact ⟨rfl, b_trans hb1 hb2⟩
      | exact ⟨rfl, b_trans (b_trans hb1 hb2) hb3⟩
end Go.Proofs.YtipjkjcmceeaeaaGreatDoor
