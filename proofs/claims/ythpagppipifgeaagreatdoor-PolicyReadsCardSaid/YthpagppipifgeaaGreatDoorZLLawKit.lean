/- What the laws' drawn regions want: values of what came in; what calls answer; equality with itself. -/
import Derived.Test.YthpagppipifgeaaGreatDoorZLN
import Derived.Test.YthpagppipifgeaaGreatDoorZLS
namespace Go.Proofs.YthpagppipifgeaaGreatDoor
open Go.RowKit

/-- What came in, and nothing that was there has changed. -/
def AtW (w3 : World) (u : Value) : Prd := fun w v => v = u ∧ Below w3.heap.size w3 w
theorem stb_atw (w3 : World) (u : Value) : Stb (AtW w3 u) := fun _ _ _ hb ⟨h1, h2⟩ => ⟨h1, b_trans h2 hb⟩
/-- What a call answers is such; nothing that was there has changed. -/
def RW (R : Prd) (w : World) : Ending → World → Prop := fun en w' => ∃ v, en = .returned v ∧ R w' v ∧ Below w.heap.size w w'
theorem rw_b {b : Bool} {w : World} {e : Ending} {w' : World} (h : RetB b w e w') : RW (Is (.bool b)) w e w' := by
  obtain ⟨rfl, hb⟩ := h
  exact ⟨_, rfl, rfl, hb⟩
theorem rw_i {i : Int} {w : World} {e : Ending} {w' : World} (h : RetI i w e w') : RW (Is (.int .i64 i)) w e w' := by
  obtain ⟨rfl, hb⟩ := h
  exact ⟨_, rfl, rfl, hb⟩
theorem pol_inf : (Tryz.prog.info? 24).map (·.size) = some 5 := by kernel_rfl
theorem fac_inf : (Tryz.prog.info? 27).map (·.size) = some 4 := by kernel_rfl
theorem eql_str (S : ByteArray) (W : World) : (binOp .eql 9 (.string S) (.string S)).run Tryz.prog W = .ok (.bool true) W := by
  have h : (binOp .eql 9 (.string S) (.string S)).run Tryz.prog W = .ok (.bool (S.toList == S.toList)) W := by kernel_rfl
  rw [h]; simp
theorem eql_errno (E : Int) (W : World) : (binOp .eql 28 (.int .i64 E) (.int .i64 E)).run Tryz.prog W = .ok (.bool true) W := by
  have h : (binOp .eql 28 (.int .i64 E) (.int .i64 E)).run Tryz.prog W = .ok (.bool (E == E)) W := by kernel_rfl
  rw [h]; simp
theorem eql_bool (b : Bool) (W : World) : (binOp .eql 4 (.bool b) (.bool b)).run Tryz.prog W = .ok (.bool true) W := by
  cases b <;> kernel_rfl
end Go.Proofs.YthpagppipifgeaaGreatDoor
