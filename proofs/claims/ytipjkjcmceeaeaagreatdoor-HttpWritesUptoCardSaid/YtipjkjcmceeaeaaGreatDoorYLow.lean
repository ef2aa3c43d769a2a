/- http.lower: the walk. -/
import Derived.Test.YtipjkjcmceeaeaaGreatDoorYOf
import Derived.Test.YtipjkjcmceeaeaaGreatDoorYRow
namespace Go.Proofs.YtipjkjcmceeaeaaGreatDoor
open Go.RowKit

theorem low_step {l : List UInt8} {i : Nat} {x : UInt8} (f : UInt8 → UInt8) (hx : l[i]? = some x) : ((l.take i).map f ++ l.drop i)[i]? = some x ∧ ((l.take i).map f ++ l.drop i).set i (f x) = (l.take (i + 1)).map f ++ l.drop (i + 1) ∧ (f x = x → (l.take i).map f ++ l.drop i = (l.take (i + 1)).map f ++ l.drop (i + 1)) := by
  obtain ⟨h, e⟩ := List.getElem?_eq_some_iff.1 hx
  have hlt : ((l.take i).map f).length = i := by rw [List.length_map, List.length_take]; omega
  have hd : l.drop i = x :: l.drop (i + 1) := by rw [List.drop_eq_getElem_cons h, e]
  have ht : (l.take (i + 1)).map f = (l.take i).map f ++ [f x] := by rw [List.take_succ_eq_append_getElem h, List.map_append, e]; rfl
  refine ⟨?_, ?_, ?_⟩
  · rw [List.getElem?_append_right (by omega), hlt, hd]; simp
  · rw [hd, ht, List.set_append_right _ _ (by omega), hlt]; simp
  · intro hfx
    rw [ht, hfx, hd]; simp
theorem orB_fin : ∀ k : Fin 256, bits BinOp.or IntKind.u8 (((UInt8.ofNat k.val).toNat : Nat) : Int) 32 = (((UInt8.ofNat k.val ||| 32).toNat : Nat) : Int) := by decide +kernel
theorem orB (x : UInt8) : bits BinOp.or IntKind.u8 ((x.toNat : Nat) : Int) 32 = (((x ||| 32).toNat : Nat) : Int) := every_byte (P := fun x => bits BinOp.or IntKind.u8 ((x.toNat : Nat) : Int) 32 = (((x ||| 32).toNat : Nat) : Int)) orB_fin x
theorem or32 : ∀ k : Fin 256, upC (UInt8.ofNat k.val) = true → lowC (UInt8.ofNat k.val) = UInt8.ofNat k.val ||| 32 := by decide +kernel
set_option maxRecDepth 100000 in
set_option maxHeartbeats 2000000 in
theorem lower_any (l : List UInt8) (w : World) (hl : l.length ≤ SB) : Calls Tryz.prog 37 #[.string (bs l)] w (RetS (bs (lowS l)) w) := by
  have hSB := SB_eq
  have hsz := bs_size l
  have HU : Hid (∀ (x : UInt8) u, Calls Tryz.prog 44 #[.int .u8 (x.toNat : Nat)] u fun e w' => e = .returned (.bool (upC x)) ∧ w' = u) := Lib.hid (fun x u => upC_upper_any x u)
  obtain ⟨cap, w1, hcv, hrow, hb1⟩ := conv_row w l (by omega)
  go_enter Tryz.func37, Tryz.ntmps37
  go_upto_region 3 with fail
  clear hcv
  obtain ⟨g, hg⟩ : ∃ g, g = w.heap.size := ⟨_, rfl⟩
  have hgB : w.heap.size ≤ g := by omega
  rw [← hg]
  have hrow0 : RowM w1 w.heap.size g cap ((l.take 0).map lowC ++ l.drop 0) := by rw [hg]; simpa using hrow
  clear hrow hg
  go_loopg [10] l.length (fun gg s10 wr => ∃ (i : Nat), i ≤ l.length ∧ gg = l.length - i ∧ s10 = .int .i64 i ∧ Aside (RowM wr w.heap.size g cap ((l.take i).map lowC ++ l.drop i)) ∧ Aside (Below w.heap.size w wr))
  case atStart => exact ⟨0, Nat.zero_le _, rfl, rfl, hrow0, hb1⟩
  case round =>
    obtain ⟨i, hil, rfl, rfl, HR, HB⟩ := hrel
    by_cases hlt : i < l.length
    · have hltz : (i : Int) < (l.length : Int) := by omega
      obtain ⟨x, hx⟩ : ∃ x, l[i]? = some x := ⟨l[i], by simp [hlt]⟩
      obtain ⟨k1, k2, k3⟩ := low_step lowC hx
      have c1 := HR.out.cell k1
      have f1 := HR.out.free i (List.getElem?_eq_some_iff.1 k1).1
      cases hux : upC x with
      | false =>
        have HC : Hid (∀ u, Calls Tryz.prog 44 #[.int .u8 (x.toNat : Nat)] u fun e w' => e = .returned (.bool false) ∧ w' = u) := Lib.hid fun u => by have := HU.out x u; rw [hux] at this; exact this
        have HR2 : Hid (RowM wr w.heap.size g cap ((l.take (i + 1)).map lowC ++ l.drop (i + 1))) := Lib.hid (by rw [← k3 (by unfold lowC; rw [hux]; rfl)]; exact HR.out)
        clear hux k1 k2 k3 hx
        go_wp2_with fail
        refine (HC.out _).mono ?_
        rintro e w2 ⟨rfl, rfl⟩
        go_wp2_with fail
        go_roundg (l.length - (i + 1))
        case measure => omega
        case rel => exact ⟨i + 1, by omega, rfl, by go_num, HR2.out, HB.out⟩
      | true =>
        have HC : Hid (∀ u, Calls Tryz.prog 44 #[.int .u8 (x.toNat : Nat)] u fun e w' => e = .returned (.bool true) ∧ w' = u) := Lib.hid fun u => by have := HU.out x u; rw [hux] at this; exact this
        have hs := HR.out.set i (lowC x)
        rw [k2] at hs
        have HR2 := Lib.hid hs
        have HB2 := Lib.hid (below_setc HB.out hgB i (.int .u8 ((lowC x).toNat : Nat)))
        have hor : lowC x = x ||| 32 := every_byte (P := fun x => upC x = true → lowC x = x ||| 32) or32 x hux
        have HOR : Hid (bits BinOp.or IntKind.u8 ((x.toNat : Nat) : Int) 32 = (((lowC x).toNat : Nat) : Int)) := Lib.hid (by rw [hor]; exact orB x)
        clear hux k1 k2 k3 hx hs hor
        go_wp2_with fail
        refine (HC.out _).mono ?_
        rintro e w2 ⟨rfl, rfl⟩
        go_wp2_with fail
        go_roundg (l.length - (i + 1))
        case measure => omega
        case rel => exact ⟨i + 1, by omega, rfl, by go_num, by rw [HOR.out]; exact HR2.out, by rw [HOR.out]; exact HB2.out⟩
    · have hltz : ¬ (i : Int) < (l.length : Int) := by omega
      have hrow : RowM wr w.heap.size g cap (lowS l) := by have := HR.out; rw [List.take_of_length_le (by omega), List.drop_eq_nil_of_le (by omega), List.append_nil] at this; exact this
      have htx := hrow.text cap
      have hll : (lowS l).length = l.length := by unfold lowS; rw [List.length_map]
      rw [hll] at htx
      clear hrow
      go_wp2_with fail
      go_ret
      exact ⟨rfl, HB.out⟩
end Go.Proofs.YtipjkjcmceeaeaaGreatDoor
