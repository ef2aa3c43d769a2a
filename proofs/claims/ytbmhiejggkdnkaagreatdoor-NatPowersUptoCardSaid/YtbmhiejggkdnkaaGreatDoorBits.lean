/- math/bits: Add32, Sub32. -/
import Derived.Test.YtbmhiejggkdnkaaGreatDoorCmp
namespace Go.Proofs.YtbmhiejggkdnkaaGreatDoor
open Go.RowKit

theorem add32_any (x y c : Nat) (w : World) (hx : x < 4294967296) (hy : y < 4294967296) (hc : c ≤ 1) :
    Calls Tryz.prog 53 #[.int .u32 (x : Int), .int .u32 (y : Int), .int .u32 (c : Int)] w fun e w' =>
      ∃ s k : Nat, e = .returned (.tuple #[.int .u32 (s : Int), .int .u32 (k : Int)]) ∧ Hid (s = (x + y + c) % LB) ∧ Hid (k = (x + y + c) / LB) ∧ w = w' := by
  go_enter Tryz.func53, Tryz.ntmps53
  go_wp2
  go_ret2
  refine ⟨(x + y + c) % LB, (x + y + c) / LB, ?_, rfl, rfl, rfl⟩
  simp [LB_eq]

/-- The borrow. -/
def bor (x y c : Nat) : Nat := if x < y + c then 1 else 0
theorem bor_le (x y c : Nat) : bor x y c ≤ 1 := by unfold bor; split <;> omega

theorem top_bit (n : Nat) (hn : n < 4294967296) : n / 2147483648 = (n.testBit 31).toNat := by
  rw [Nat.testBit_eq_decide_div_mod_eq]
  have e : n / 2 ^ 31 = n / 2147483648 := rfl
  rw [e]
  rcases (by omega : n / 2147483648 = 0 ∨ n / 2147483648 = 1) with h | h <;> simp [h]

theorem top_bit_iff (n : Nat) (hn : n < 4294967296) : n.testBit 31 = decide (2147483648 ≤ n) := by
  have h := top_bit n hn
  cases hb : n.testBit 31
  · rw [hb] at h
    have : n / 2147483648 = 0 := h
    simp; omega
  · rw [hb] at h
    have : n / 2147483648 = 1 := h
    simp; omega

/-- The borrow, bit by bit. -/
theorem borrow_bits (x y c : Nat) (hx : x < 4294967296) (hy : y < 4294967296) (hc : c ≤ 1) :
    (((4294967295 ^^^ x) &&& y) ||| ((4294967295 ^^^ (x ^^^ y)) &&& ((x + 4294967296 - y - c) % 4294967296))) / 2147483648 = bor x y c := by
  obtain ⟨d, hd⟩ : ∃ d, d = (x + 4294967296 - y - c) % 4294967296 := ⟨_, rfl⟩
  rw [← hd]
  have hdl : d < 4294967296 := by omega
  have hxor : x ^^^ y < 4294967296 := Nat.xor_lt_two_pow (n := 32) hx hy
  have h1 : 4294967295 ^^^ x < 4294967296 := Nat.xor_lt_two_pow (n := 32) (by omega) hx
  have h2 : 4294967295 ^^^ (x ^^^ y) < 4294967296 := Nat.xor_lt_two_pow (n := 32) (by omega) hxor
  have h3 : (4294967295 ^^^ x) &&& y < 4294967296 := Nat.and_lt_two_pow (n := 32) _ hy
  have h4 : (4294967295 ^^^ (x ^^^ y)) &&& d < 4294967296 := Nat.and_lt_two_pow (n := 32) _ hdl
  rw [top_bit _ (Nat.or_lt_two_pow (n := 32) h3 h4)]
  have ht : Nat.testBit 4294967295 31 = true := by decide
  rw [Nat.testBit_or, Nat.testBit_and, Nat.testBit_and, Nat.testBit_xor, Nat.testBit_xor, Nat.testBit_xor, ht, top_bit_iff x hx, top_bit_iff y hy, top_bit_iff d hdl]
  unfold bor
  by_cases a : 2147483648 ≤ x <;> by_cases b : 2147483648 ≤ y <;> by_cases e : 2147483648 ≤ d <;> by_cases g : x < y + c <;> simp [a, b, e, g] <;> omega

theorem sub32_bits (x y c : Nat) (hx : x < 4294967296) (hy : y < 4294967296) (hc : c ≤ 1) (D : Int) (e0 : D = (((x + 4294967296 - y - c) % 4294967296 : Nat) : Int)) :
    bits BinOp.or IntKind.u32 (bits BinOp.and IntKind.u32 (bits BinOp.xor IntKind.u32 IntKind.u32.max (x : Int)) (y : Int))
      (bits BinOp.and IntKind.u32 (bits BinOp.xor IntKind.u32 IntKind.u32.max (bits BinOp.xor IntKind.u32 (x : Int) (y : Int))) D) / 2147483648 = (bor x y c : Int) := by
  have em : IntKind.u32.max = ((4294967295 : Nat) : Int) := by decide
  have hxor : x ^^^ y < 4294967296 := Nat.xor_lt_two_pow (n := 32) hx hy
  have h1 : 4294967295 ^^^ x < 4294967296 := Nat.xor_lt_two_pow (n := 32) (by omega) hx
  have h2 : 4294967295 ^^^ (x ^^^ y) < 4294967296 := Nat.xor_lt_two_pow (n := 32) (by omega) hxor
  have hd : (x + 4294967296 - y - c) % 4294967296 < 4294967296 := Nat.mod_lt _ (by omega)
  have h3 : (4294967295 ^^^ x) &&& y < 4294967296 := Nat.and_lt_two_pow (n := 32) _ hy
  have h4 : (4294967295 ^^^ (x ^^^ y)) &&& ((x + 4294967296 - y - c) % 4294967296) < 4294967296 := Nat.and_lt_two_pow (n := 32) _ hd
  rw [e0, em, u32_xor_nat _ _ (by omega) hx, u32_and_nat _ _ h1 hy, u32_xor_nat _ _ hx hy, u32_xor_nat _ _ (by omega) hxor, u32_and_nat _ _ h2 hd, u32_or_nat _ _ h3 h4, ← borrow_bits x y c hx hy hc]
  rfl

theorem sub32_any (x y c : Nat) (w : World) (hx : x < 4294967296) (hy : y < 4294967296) (hc : c ≤ 1) :
    Calls Tryz.prog 55 #[.int .u32 (x : Int), .int .u32 (y : Int), .int .u32 (c : Int)] w fun e w' =>
      ∃ s k : Nat, e = .returned (.tuple #[.int .u32 (s : Int), .int .u32 (k : Int)]) ∧ Hid (s = (x + LB - y - c) % LB) ∧ Hid (k = bor x y c) ∧ w = w' := by
  have hsg : IntKind.u32.signed = false := rfl
  go_enter Tryz.func55, Tryz.ntmps55
  go_wp2
  go_ret2
  have e : (((x : Int) - (y : Int)) % 4294967296 - (c : Int)) % 4294967296 = (((x + LB - y - c) % LB : Nat) : Int) := by rw [LB_eq]; omega
  exact ⟨(x + LB - y - c) % LB, bor x y c, ret2_int e (sub32_bits x y c hx hy hc _ (by omega)), rfl, rfl, rfl⟩
end Go.Proofs.YtbmhiejggkdnkaaGreatDoor
