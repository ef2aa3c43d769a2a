/- LPrint LFixS, in one text. -/
import Derived.Test.YthpagppipifgeaaGreatDoorZLText2
import Derived.Test.YthpagppipifgeaaGreatDoorZLRepl
import Derived.Test.YthpagppipifgeaaGreatDoorZLNew
import Derived.Test.YthpagppipifgeaaGreatDoorZLMay
import Derived.Test.YthpagppipifgeaaGreatDoorZLName
import Derived.Test.YthpagppipifgeaaGreatDoorZLQ
import Derived.Test.YthpagppipifgeaaGreatDoorZLD
/- policy's face, for every policy: Check, Holds, Print. -/
namespace Go.Proofs.YthpagppipifgeaaGreatDoor
open Go.RowKit

theorem may_ok (F : Fo) : MayAt F := may_any name_any literal_any F
theorem text_ok (F : Fo) : TextAt F := text_any new_ok repl_ok F
theorem Check_any (k o : Int) (n t : ByteArray) (F : Fo) (ad : Option Addr) (c : Nat) (w : World) (hn : n.size ≤ SB) (ht : t.size ≤ SB) (hs : SlF w F ad c) :
    Calls Tryz.prog 11 #[pv k o n t ad F.len c] w (RetI (chkP k o n t F) w) :=
  check_core k o n t F ad c w hs fun w1 h1 => may_ok F k o n t ad c w1 hn ht h1
theorem Holds_any (k o : Int) (n t : ByteArray) (F : Fo) (ad : Option Addr) (c : Nat) (x : Fx) (w : World) (hn : n.size ≤ SB) (ht : t.size ≤ SB) (hs : SlF w F ad c) (hx : FxAt w x) :
    Calls Tryz.prog 13 #[pv k o n t ad F.len c, x.v] w (RetB (holdsP x k o n t F) w) :=
  Holds_core k o n t F ad c x w hs hx fun w1 h1 => Check_any k o n t F ad c w1 hn ht h1
/-- Print's answer. -/
def printP (k o : Int) (n t : ByteArray) (F : Fo) : List UInt8 × Int :=
  if chkP k o n t F = 0 then (if 1024 < (textP k o n t F).length then ([], 201) else (textP k o n t F, 0)) else ([], chkP k o n t F)
def RetSI (v : ByteArray) (x : Int) (w : World) : Ending → World → Prop := fun e w' => e = .returned (.tuple #[.string v, .int .i64 x]) ∧ Below w.heap.size w w'
theorem chk_may {k o : Int} {n t : ByteArray} {F : Fo} (h : chkP k o n t F = 0) : mayP k o n t F = true := by
  unfold chkP at h
  split at h
  · assumption
  · omega
set_option maxRecDepth 100000 in
set_option maxHeartbeats 1000000 in
theorem Print_any (k o : Int) (n t : ByteArray) (F : Fo) (ad : Option Addr) (c : Nat) (w : World) (hn : n.size ≤ SB) (ht : t.size ≤ SB) (hc : chkP k o n t F = 0 → F.cnt ≤ 1000000) (hs : SlF w F ad c) :
    Calls Tryz.prog 9 #[pv k o n t ad F.len c] w (RetSI (bs (printP k o n t F).1) (printP k o n t F).2 w) := by
  have HC : Hid (∀ w1, Below w.heap.size w w1 → Calls Tryz.prog 11 #[pv k o n t ad F.len c] w1 (RetI (chkP k o n t F) w1)) := Lib.hid fun w1 hb => Check_any k o n t F ad c w1 hn ht (hs.grown hb)
  by_cases h0 : chkP k o n t F = 0
  · have hl := textP_le (chk_may h0) (hc h0)
    have HT : Hid (∀ w1, Below w.heap.size w w1 → Calls Tryz.prog 25 #[pv k o n t ad F.len c] w1 (RetS (bs (textP k o n t F)) w1)) := Lib.hid fun w1 hb => text_ok F k o n t ad c w1 (chk_may h0) (hc h0) (hs.grown hb)
    have hpr : printP k o n t F = if 1024 < (textP k o n t F).length then ([], 201) else (textP k o n t F, 0) := by unfold printP; rw [if_pos h0]
    rw [hpr]
    rw [h0] at HC
    clear hpr h0 hs hc
    generalize textP k o n t F = T at *
    have hsz := bs_size T
    by_cases hlt : 1024 < T.length
    · have hz : (1024 : Int) < (T.length : Int) := by omega
      rw [if_pos hlt]
      go_enter Tryz.func9, Tryz.ntmps9
      go_wp2_with (first
        | (go_at_call 11; refine (HC.out _ (b_alloc _ _)).mono ?_; rintro e w1 ⟨rfl, hb⟩; have c0 := box_cell hb 0 rfl; have c1 := box_cell hb 1 rfl; have c2 := box_cell hb 2 rfl; have c3 := box_cell hb 3 rfl; have c4 := box_cell hb 4 rfl)
        | (go_at_call 25; refine (HT.out _ (b_call hb)).mono ?_; rintro e w2 ⟨rfl, hb2⟩))
      go_ret2
      exact ⟨rfl, b_trans (b_call hb) hb2⟩
    · have hz : ¬ (1024 : Int) < (T.length : Int) := by omega
      rw [if_neg hlt]
      go_enter Tryz.func9, Tryz.ntmps9
      go_wp2_with (first
        | (go_at_call 11; refine (HC.out _ (b_alloc _ _)).mono ?_; rintro e w1 ⟨rfl, hb⟩; have c0 := box_cell hb 0 rfl; have c1 := box_cell hb 1 rfl; have c2 := box_cell hb 2 rfl; have c3 := box_cell hb 3 rfl; have c4 := box_cell hb 4 rfl)
        | (go_at_call 25; refine (HT.out _ (b_call hb)).mono ?_; rintro e w2 ⟨rfl, hb2⟩))
      go_ret2
      exact ⟨rfl, b_trans (b_call hb) hb2⟩
  · have hpr : printP k o n t F = ([], chkP k o n t F) := by unfold printP; rw [if_neg h0]
    rw [hpr]
    clear hpr hs hc
    generalize chkP k o n t F = C at *
    have hz : (C != 0) = true := by simp [h0]
    go_enter Tryz.func9, Tryz.ntmps9
    go_wp2_with (go_at_call 11; refine (HC.out _ (b_alloc _ _)).mono ?_; rintro e w1 ⟨rfl, hb⟩)
    go_ret2
    exact ⟨rfl, b_call hb⟩
end Go.Proofs.YthpagppipifgeaaGreatDoor
/- Plain: the answers that the document fixes. -/
namespace Go.Proofs.YthpagppipifgeaaGreatDoor
open Go.RowKit

def t1 : ByteArray := ⟨#[109, 101, 116, 104, 111, 100, 32, 105, 115, 32, 34, 71, 69, 84, 34, 97, 110, 100, 40, 99, 108, 97, 105, 109, 46, 114, 111, 108, 101, 32, 104, 97, 115, 32, 34, 120, 34, 111, 114, 32, 110, 111, 116, 32, 99, 101, 114, 116, 46, 99, 110, 32, 105, 115, 32, 34, 121, 34, 41]⟩
def t2 : ByteArray := ⟨#[109, 101, 116, 104, 111, 100, 32, 105, 115, 32, 34, 71, 69, 84, 34, 32, 97, 110, 100, 32, 40, 99, 108, 97, 105, 109, 46, 114, 111, 108, 101, 32, 104, 97, 115, 32, 34, 120, 34, 32, 111, 114, 32, 110, 111, 116, 32, 99, 101, 114, 116, 46, 99, 110, 32, 105, 115, 32, 34, 121, 34, 41]⟩
def b_get : ByteArray := bs [71, 69, 84]
def b_x : ByteArray := bs [120]
def b_y : ByteArray := bs [121]
def b_role : ByteArray := bs [114, 111, 108, 101]
def b_cn : ByteArray := bs [99, 110]
def k1 : Fo := .cons 4 0 e0 b_get .nil (.cons 3 0 e0 e0 (.cons 6 2 b_role b_x .nil (.cons 1 0 e0 e0 (.cons 4 3 b_cn b_y .nil .nil) .nil)) .nil)
def P1 : Po := ⟨2, 0, e0, e0, k1⟩
set_option maxRecDepth 1000000 in
theorem parse1 : ParseR t1.data.toList = (P1, 0) := by kernel_rfl
set_option maxRecDepth 1000000 in
theorem parse2 : ParseR [110, 111, 116, 97, 108, 119, 97, 121, 115] = (zPo, 200) := by kernel_rfl
set_option maxRecDepth 1000000 in
theorem parse3 : ParseR [112, 97, 116, 104, 32, 105, 115, 32, 34, 92, 120, 34] = (zPo, 200) := by kernel_rfl
theorem parse4 : ParseR (List.replicate 1025 0) = (zPo, 201) := by unfold ParseR; exact if_pos (by rw [List.length_replicate]; omega)
set_option maxRecDepth 1000000 in
theorem print1 : printP 2 0 e0 e0 k1 = (t2.data.toList, 0) := by kernel_rfl
theorem cnt1 : k1.cnt ≤ 1000000 := by decide
/-- The facts. -/
def fx1 (a1 : Option Addr) (c1 : Nat) : Fx := ⟨b_get, bs [47, 97, 47, 98], [(b_role, [b_x, b_y])], [], a1, c1, none, 0⟩
set_option maxRecDepth 1000000 in
theorem hold1 (a1 : Option Addr) (c1 : Nat) : holdsP (fx1 a1 c1) 2 0 e0 e0 k1 = true := by kernel_rfl
set_option maxRecDepth 1000000 in
theorem hold2 (a1 : Option Addr) (c1 : Nat) : holdsP (fx1 a1 c1) 4 2 b_role b_y .nil = false := by kernel_rfl
set_option maxRecDepth 1000000 in
theorem hold3 (a1 : Option Addr) (c1 : Nat) : holdsP (fx1 a1 c1) 5 1 e0 (bs [47, 97]) .nil = true := by kernel_rfl
theorem chk1 : chkP 0 0 e0 e0 .nil = 0 := by kernel_rfl
theorem chk2 : chkP 9 0 e0 e0 .nil = 202 := by kernel_rfl
end Go.Proofs.YthpagppipifgeaaGreatDoor
