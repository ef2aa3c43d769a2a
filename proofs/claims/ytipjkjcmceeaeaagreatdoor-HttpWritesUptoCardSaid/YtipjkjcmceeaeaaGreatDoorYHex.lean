/- http.hex; ostiaryref15.hex: the walks. -/
import Derived.Test.YtipjkjcmceeaeaaGreatDoorYLow
import Derived.Test.YtipjkjcmceeaeaaGreatDoorShelf
namespace Go.Proofs.YtipjkjcmceeaeaaGreatDoor
open Go.RowKit

def hexTab : List UInt8 := [48, 49, 50, 51, 52, 53, 54, 55, 56, 57, 97, 98, 99, 100, 101, 102]
/-- What http.hex answers. -/
def hexI (x : UInt8) : Int := Lib.indexByte hexTab (x ||| 32)
theorem hexI_fin : ∀ k : Fin 256, (heC (UInt8.ofNat k.val) = true → hexI (UInt8.ofNat k.val) = (hexV (UInt8.ofNat k.val) : Nat) ∧ (dgC (UInt8.ofNat k.val) = true ∨ 65 ≤ (UInt8.ofNat k.val).toNat) ∧ hexV (UInt8.ofNat k.val) < 16) ∧ (heC (UInt8.ofNat k.val) = false → hexI (UInt8.ofNat k.val) < 0 ∨ (dgC (UInt8.ofNat k.val) = false ∧ (UInt8.ofNat k.val).toNat < 65)) := by decide +kernel
theorem hexI_he {x : UInt8} (h : heC x = true) : hexI x = (hexV x : Nat) ∧ (dgC x = true ∨ 65 ≤ x.toNat) ∧ hexV x < 16 := (every_byte (P := fun x => (heC x = true → hexI x = (hexV x : Nat) ∧ (dgC x = true ∨ 65 ≤ x.toNat) ∧ hexV x < 16) ∧ (heC x = false → hexI x < 0 ∨ (dgC x = false ∧ x.toNat < 65))) hexI_fin x).1 h
theorem hexI_no {x : UInt8} (h : heC x = false) : hexI x < 0 ∨ (dgC x = false ∧ x.toNat < 65) := (every_byte (P := fun x => (heC x = true → hexI x = (hexV x : Nat) ∧ (dgC x = true ∨ 65 ≤ x.toNat) ∧ hexV x < 16) ∧ (heC x = false → hexI x < 0 ∨ (dgC x = false ∧ x.toNat < 65))) hexI_fin x).2 h
theorem toB_fin : ∀ k : Fin 256, ((((UInt8.ofNat k.val).toNat : Nat) : Int).toNat.toUInt8) = UInt8.ofNat k.val := by decide +kernel
theorem toB (x : UInt8) : (((x.toNat : Nat) : Int).toNat.toUInt8) = x := every_byte (P := fun x => (((x.toNat : Nat) : Int).toNat.toUInt8) = x) toB_fin x
set_option maxRecDepth 100000 in
theorem hex_any (x : UInt8) (w : World) : Calls Tryz.prog 89 #[.int .u8 (x.toNat : Nat)] w fun e w' => e = .returned (.int .i64 (hexI x)) ∧ w' = w := by
  have hor := orB x
  have HC : Hid (∀ u, Calls Tryz.prog 91 #[.string ⟨#[48, 49, 50, 51, 52, 53, 54, 55, 56, 57, 97, 98, 99, 100, 101, 102]⟩, .int .u8 (((x ||| 32).toNat : Nat) : Int)] u fun e w' => e = .returned (.int .i64 (hexI x)) ∧ w' = u) := Lib.hid fun u => by
    have := Tryz.strings_IndexByte ⟨#[48, 49, 50, 51, 52, 53, 54, 55, 56, 57, 97, 98, 99, 100, 101, 102]⟩ (((x ||| 32).toNat : Nat) : Int) u
    rw [toB] at this
    exact this
  go_enter Tryz.func89, Tryz.ntmps89
  go_wp2_with fail
  try rw [hor]
  refine (HC.out _).mono ?_
  rintro e w1 ⟨rfl, rfl⟩
  go_wp2_with fail
  go_ret
  exact ⟨rfl, rfl⟩
end Go.Proofs.YtipjkjcmceeaeaaGreatDoor
