/- Plain: the answers that the document fixes. -/
import Derived.Test.YthpagppipifgeaaGreatDoorZLPrint
import Derived.Test.YthpagppipifgeaaGreatDoorZLD
namespace Go.Proofs.YthpagppipifgeaaGreatDoor
open Go.RowKit

def t1 : ByteArray := ⟨#[109, 101, 116, 104, 111, 100, 32, 105, 115, 32, 34, 71, 69, 84, 34, 97, 110, 100, 40, 99, 108, 97, 105, 109, 46, 114, 111, 108, 101, 32, 104, 97, 115, 32, 34, 120, 34, 111, 114, 32, 110, 111, 116, 32, 99, 101, 114, 116, 46, 99, 110, 32, 105, 115, 32, 34, 121, 34, 41]⟩
def t2 : ByteArray := ⟨#[109, 101, 116, 104, 111, 100, 32, 105, 115, 32, 34, 71, 69, 84, 34, 32, 97, 110, 100, 32, 40, 99, 108, 97, 105, 109, 46, 114, 111, 108, 101, 32, 104, 97, 115, 32, 34, 120, 34, 32, 111, 114, 32, 110, 111, 116, 32, 99, 101, 114, 116, 46, 99, 110, 32, 105, 115, 32, 34, 121, 34, 41]⟩
def b_get : ByteArray := bs [71, 69, 84]
def b_x : ByteArray := bs [120]
def b_y : ByteArray := bs [121]
def b_role : ByteArray := bs [114, 111, 108, 101]
def b_cn : ByteArray := bs [99, 110]
def k1 : Fo := .cons 4 0 e0 b_get .nil (.cons 3 0 e0 e0 (.cons 6 2 b_role b_x .nil (.cons 1 0 e0 e0 (.cons 4 3 b_cn b_y .nil .nil) .nil)) .nil)
def P1 : Po := ⟨2, 0, e0, e0, k1⟩
set_option maxRecDepth 1000000 in
theorem parse1 : ParseR t1.data.toList = (P1, 0) := by kernel_rfl
set_option maxRecDepth 1000000 in
theorem parse2 : ParseR [110, 111, 116, 97, 108, 119, 97, 121, 115] = (zPo, 200) := by kernel_rfl
set_option maxRecDepth 1000000 in
theorem parse3 : ParseR [112, 97, 116, 104, 32, 105, 115, 32, 34, 92, 120, 34] = (zPo, 200) := by kernel_rfl
theorem parse4 : ParseR (List.replicate 1025 0) = (zPo, 201) := by unfold ParseR; exact if_pos (by rw [List.length_replicate]; omega)
set_option maxRecDepth 1000000 in
theorem print1 : printP 2 0 e0 e0 k1 = (t2.data.toList, 0) := by kernel_rfl
theorem cnt1 : k1.cnt ≤ 1000000 := by decide
/-- The facts. -/
def fx1 (a1 : Option Addr) (c1 : Nat) : Fx := ⟨b_get, bs [47, 97, 47, 98], [(b_role, [b_x, b_y])], [], a1, c1, none, 0⟩
set_option maxRecDepth 1000000 in
theorem hold1 (a1 : Option Addr) (c1 : Nat) : holdsP (fx1 a1 c1) 2 0 e0 e0 k1 = true := by kernel_rfl
set_option maxRecDepth 1000000 in
theorem hold2 (a1 : Option Addr) (c1 : Nat) : holdsP (fx1 a1 c1) 4 2 b_role b_y .nil = false := by kernel_rfl
set_option maxRecDepth 1000000 in
theorem hold3 (a1 : Option Addr) (c1 : Nat) : holdsP (fx1 a1 c1) 5 1 e0 (bs [47, 97]) .nil = true := by kernel_rfl
theorem chk1 : chkP 0 0 e0 e0 .nil = 0 := by kernel_rfl
theorem chk2 : chkP 9 0 e0 e0 .nil = 202 := by kernel_rfl
end Go.Proofs.YthpagppipifgeaaGreatDoor
