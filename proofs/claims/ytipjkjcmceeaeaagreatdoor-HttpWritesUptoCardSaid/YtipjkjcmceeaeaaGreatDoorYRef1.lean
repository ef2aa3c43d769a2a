/- ostiaryref15.In, Of, Lower; the law's upper: the walks. -/
import Derived.Test.YtipjkjcmceeaeaaGreatDoorYLow
namespace Go.Proofs.YtipjkjcmceeaeaaGreatDoor
open Go.RowKit

theorem take_has {l : List UInt8} {i : Nat} {x : UInt8} (hx : l[i]? = some x) (c : UInt8) : (l.take (i + 1)).contains c = ((l.take i).contains c || c == x) := by
  obtain ⟨h, e⟩ := List.getElem?_eq_some_iff.1 hx
  rw [List.take_succ_eq_append_getElem h, e]
  by_cases hc : c = x <;> simp [hc, Bool.or_comm]
set_option maxRecDepth 100000 in
set_option maxHeartbeats 2000000 in
theorem in_any (l : List UInt8) (c : UInt8) (w : World) (hl : l.length ≤ SB) : Calls Tryz.prog 69 #[.string (bs l), .int .u8 (c.toNat : Nat)] w fun e w' => e = .returned (.bool (l.contains c)) ∧ w' = w := by
  have hSB := SB_eq
  have hsz := bs_size l
  obtain ⟨R, hR⟩ : ∃ R, R = l.contains c := ⟨_, rfl⟩
  rw [← hR]
  have HRR := Lib.hid hR
  clear hR
  go_enter Tryz.func69, Tryz.ntmps69
  go_upto_region 2 with fail
  go_loopg [5] l.length (fun gg s5 wr => ∃ (i : Nat), i ≤ l.length ∧ gg = l.length - i ∧ s5 = .int .i64 i ∧ wr = w ∧ Aside ((l.take i).contains c = false))
  case atStart => exact ⟨0, Nat.zero_le _, rfl, rfl, rfl, rfl⟩
  case round =>
    obtain ⟨i, hil, rfl, rfl, rfl, HA⟩ := hrel
    by_cases hlt : i < l.length
    · have hltz : (i : Int) < (l.length : Int) := by omega
      obtain ⟨x, hx⟩ : ∃ x, l[i]? = some x := ⟨l[i], by simp [hlt]⟩
      have hgi := bs_get l i x hx
      have HX := Lib.hid hx
      clear hx
      by_cases hxc : x = c
      · have HR : Hid (true = R) := Lib.hid (by rw [HRR.out, ← hxc, List.contains_eq_mem]; exact (decide_eq_true (List.mem_of_getElem? HX.out)).symm)
        have he : ((x.toNat : Int) == (c.toNat : Int)) = true := by rw [hxc]; simp
        clear hxc
        go_wp2_with fail
        go_ret
        exact ⟨congrArg (fun b : Bool => Ending.returned (Value.bool b)) HR.out, rfl⟩
      · have he : ((x.toNat : Int) == (c.toNat : Int)) = false := by
          have : x.toNat ≠ c.toNat := fun h => hxc (UInt8.toNat_inj.1 h)
          simp; omega
        have HA2 : Hid ((l.take (i + 1)).contains c = false) := Lib.hid (by rw [take_has HX.out, HA.out]; simp; exact fun h => hxc h.symm)
        clear hxc
        go_wp2_with fail
        go_roundg (l.length - (i + 1))
        case measure => omega
        case rel => exact ⟨i + 1, by omega, rfl, by go_num, rfl, HA2.out⟩
    · have hltz : ¬ (i : Int) < (l.length : Int) := by omega
      have HR : Hid (false = R) := Lib.hid (by have := HA.out; rw [List.take_of_length_le (by omega)] at this; rw [HRR.out]; exact this.symm)
      go_wp2_with fail
      go_ret
      exact ⟨congrArg (fun b : Bool => Ending.returned (Value.bool b)) HR.out, rfl⟩
set_option maxRecDepth 100000 in
set_option maxHeartbeats 2000000 in
theorem Of_any (l these : List UInt8) (p : UInt8 → Bool) (hp : ∀ c, these.contains c = p c) (lo hi : Nat) (w : World) (hl : l.length ≤ SB) (ht : these.length ≤ SB) :
    Calls Tryz.prog 49 #[.string (bs l), .int .i64 (lo : Nat), .int .i64 (hi : Nat), .string (bs these)] w fun e w' => e = .returned (.bool (ofB lo hi p l)) ∧ w' = w := by
  have hSB := SB_eq
  have hsz := bs_size l
  have HP : Hid (∀ (x : UInt8) u, Calls Tryz.prog 69 #[.string (bs these), .int .u8 (x.toNat : Nat)] u fun e w' => e = .returned (.bool (p x)) ∧ w' = u) := Lib.hid fun x u => by rw [← hp]; exact in_any these x u ht
  clear hp ht
  by_cases hlo : l.length < lo
  · have zlo : (l.length : Int) < (lo : Int) := by omega
    have HR : Hid (ofB lo hi p l = false) := Lib.hid (by unfold ofB; rw [decide_eq_false (by omega), Bool.and_false, Bool.false_and])
    clear hlo
    go_enter Tryz.func49, Tryz.ntmps49
    go_wp2_with fail
    go_ret
    rw [HR.out]
    exact ⟨rfl, rfl⟩
  have zlo : ¬ (l.length : Int) < (lo : Int) := by omega
  by_cases hhi : hi < l.length
  · have zhi : (hi : Int) < (l.length : Int) := by omega
    have HR : Hid (ofB lo hi p l = false) := Lib.hid (by unfold ofB; rw [decide_eq_false (show ¬ l.length ≤ hi by omega), Bool.and_false])
    clear hlo hhi
    go_enter Tryz.func49, Tryz.ntmps49
    go_wp2_with fail
    go_ret
    rw [HR.out]
    exact ⟨rfl, rfl⟩
  have zhi : ¬ (hi : Int) < (l.length : Int) := by omega
  have HO : Hid (ofB lo hi p l = l.all p) := Lib.hid (by unfold ofB; rw [decide_eq_true (show lo ≤ l.length by omega), decide_eq_true (show l.length ≤ hi by omega)]; simp)
  clear hlo hhi
  go_enter Tryz.func49, Tryz.ntmps49
  go_upto_region 4 with fail
  go_loopg [9] l.length (fun gg s9 wr => ∃ (i : Nat), i ≤ l.length ∧ gg = l.length - i ∧ s9 = .int .i64 i ∧ wr = w ∧ Aside ((l.take i).all p = true))
  case atStart => exact ⟨0, Nat.zero_le _, rfl, rfl, rfl, rfl⟩
  case round =>
    obtain ⟨i, hil, rfl, rfl, rfl, HA⟩ := hrel
    by_cases hlt : i < l.length
    · have hltz : (i : Int) < (l.length : Int) := by omega
      obtain ⟨x, hx⟩ : ∃ x, l[i]? = some x := ⟨l[i], by simp [hlt]⟩
      have hgi := bs_get l i x hx
      have HX := Lib.hid hx
      clear hx
      cases hpx : p x with
      | false =>
        have HC : Hid (∀ u, Calls Tryz.prog 69 #[.string (bs these), .int .u8 (x.toNat : Nat)] u fun e w' => e = .returned (.bool false) ∧ w' = u) := Lib.hid fun u => by have := HP.out x u; rw [hpx] at this; exact this
        have HR : Hid (ofB lo hi p l = false) := Lib.hid (by rw [HO.out, all_false HX.out hpx])
        clear hpx
        go_wp2_with fail
        refine (HC.out _).mono ?_
        rintro e w1 ⟨rfl, rfl⟩
        go_wp2_with fail
        go_ret
        rw [HR.out]
        exact ⟨rfl, rfl⟩
      | true =>
        have HC : Hid (∀ u, Calls Tryz.prog 69 #[.string (bs these), .int .u8 (x.toNat : Nat)] u fun e w' => e = .returned (.bool true) ∧ w' = u) := Lib.hid fun u => by have := HP.out x u; rw [hpx] at this; exact this
        have HA2 : Hid ((l.take (i + 1)).all p = true) := Lib.hid (by rw [take_all HX.out, HA.out, hpx]; rfl)
        clear hpx
        go_wp2_with fail
        refine (HC.out _).mono ?_
        rintro e w1 ⟨rfl, rfl⟩
        go_wp2_with fail
        go_roundg (l.length - (i + 1))
        case measure => omega
        case rel => exact ⟨i + 1, by omega, rfl, by go_num, rfl, HA2.out⟩
    · have hltz : ¬ (i : Int) < (l.length : Int) := by omega
      have HR : Hid (ofB lo hi p l = true) := Lib.hid (by rw [HO.out]; have := HA.out; rw [List.take_of_length_le (by omega)] at this; exact this)
      go_wp2_with fail
      go_ret
      rw [HR.out]
      exact ⟨rfl, rfl⟩
def lUpper : List UInt8 := [65, 66, 67, 68, 69, 70, 71, 72, 73, 74, 75, 76, 77, 78, 79, 80, 81, 82, 83, 84, 85, 86, 87, 88, 89, 90]
theorem has_upper (c : UInt8) : lUpper.contains c = upC c := every_byte (P := fun c => lUpper.contains c = upC c) (by decide +kernel) c
theorem add32_fin : ∀ k : Fin 256, upC (UInt8.ofNat k.val) = true → ((lowC (UInt8.ofNat k.val)).toNat : Int) = ((UInt8.ofNat k.val).toNat : Int) + 32 := by decide +kernel
set_option maxRecDepth 100000 in
set_option maxHeartbeats 2000000 in
theorem Lower_any (l : List UInt8) (w : World) (hl : l.length ≤ SB) : Calls Tryz.prog 38 #[.string (bs l)] w (RetS (bs (lowS l)) w) := by
  have hSB := SB_eq
  have hsz := bs_size l
  have HU : Hid (∀ (x : UInt8) u, Calls Tryz.prog 69 #[.string ⟨#[65, 66, 67, 68, 69, 70, 71, 72, 73, 74, 75, 76, 77, 78, 79, 80, 81, 82, 83, 84, 85, 86, 87, 88, 89, 90]⟩, .int .u8 (x.toNat : Nat)] u fun e w' => e = .returned (.bool (upC x)) ∧ w' = u) := Lib.hid (fun x u => by rw [← has_upper]; exact in_any lUpper x u (by rw [hSB]; decide))
  obtain ⟨cap, w1, hcv, hrow, hb1⟩ := conv_row w l (by omega)
  go_enter Tryz.func38, Tryz.ntmps38
  go_upto_region 3 with fail
  clear hcv
  obtain ⟨g, hg⟩ : ∃ g, g = w.heap.size := ⟨_, rfl⟩
  have hgB : w.heap.size ≤ g := by omega
  rw [← hg]
  have hrow0 : RowM w1 w.heap.size g cap ((l.take 0).map lowC ++ l.drop 0) := by rw [hg]; simpa using hrow
  clear hrow hg
  go_loopg [4] l.length (fun gg s4 wr => ∃ (i : Nat), i ≤ l.length ∧ gg = l.length - i ∧ s4 = .int .i64 i ∧ Aside (RowM wr w.heap.size g cap ((l.take i).map lowC ++ l.drop i)) ∧ Aside (Below w.heap.size w wr))
  case atStart => exact ⟨0, Nat.zero_le _, rfl, rfl, hrow0, hb1⟩
  case round =>
    obtain ⟨i, hil, rfl, rfl, HR, HB⟩ := hrel
    by_cases hlt : i < l.length
    · have hltz : (i : Int) < (l.length : Int) := by omega
      obtain ⟨x, hx⟩ : ∃ x, l[i]? = some x := ⟨l[i], by simp [hlt]⟩
      obtain ⟨k1, k2, k3⟩ := low_step lowC hx
      have c1 := HR.out.cell k1
      have f1 := HR.out.free i (List.getElem?_eq_some_iff.1 k1).1
      cases hux : upC x with
      | false =>
        have HC : Hid (∀ u, Calls Tryz.prog 69 #[.string ⟨#[65, 66, 67, 68, 69, 70, 71, 72, 73, 74, 75, 76, 77, 78, 79, 80, 81, 82, 83, 84, 85, 86, 87, 88, 89, 90]⟩, .int .u8 (x.toNat : Nat)] u fun e w' => e = .returned (.bool false) ∧ w' = u) := Lib.hid fun u => by have := HU.out x u; rw [hux] at this; exact this
        have HR2 : Hid (RowM wr w.heap.size g cap ((l.take (i + 1)).map lowC ++ l.drop (i + 1))) := Lib.hid (by rw [← k3 (by unfold lowC; rw [hux]; rfl)]; exact HR.out)
        clear hux k1 k2 k3 hx
        go_wp2_with fail
        refine (HC.out _).mono ?_
        rintro e w2 ⟨rfl, rfl⟩
        go_wp2_with fail
        go_roundg (l.length - (i + 1))
        case measure => omega
        case rel => exact ⟨i + 1, by omega, rfl, by go_num, HR2.out, HB.out⟩
      | true =>
        have HC : Hid (∀ u, Calls Tryz.prog 69 #[.string ⟨#[65, 66, 67, 68, 69, 70, 71, 72, 73, 74, 75, 76, 77, 78, 79, 80, 81, 82, 83, 84, 85, 86, 87, 88, 89, 90]⟩, .int .u8 (x.toNat : Nat)] u fun e w' => e = .returned (.bool true) ∧ w' = u) := Lib.hid fun u => by have := HU.out x u; rw [hux] at this; exact this
        have hs := HR.out.set i (lowC x)
        rw [k2] at hs
        have HR2 := Lib.hid hs
        have HB2 := Lib.hid (below_setc HB.out hgB i (.int .u8 ((lowC x).toNat : Nat)))
        have hadd := every_byte (P := fun x => upC x = true → ((lowC x).toNat : Int) = (x.toNat : Int) + 32) add32_fin x hux
        have h256 := (lowC x).toNat_lt
        have hwr : ((x.toNat : Int) + 32) % 256 = ((lowC x).toNat : Int) := by omega
        have HOR := Lib.hid hwr
        clear hux k1 k2 k3 hx hs hadd h256 hwr
        go_wp2_with fail
        refine (HC.out _).mono ?_
        rintro e w2 ⟨rfl, rfl⟩
        go_wp2_with fail
        go_roundg (l.length - (i + 1))
        case measure => omega
        case rel => exact ⟨i + 1, by omega, rfl, by go_num, by rw [HOR.out]; exact HR2.out, by rw [HOR.out]; exact HB2.out⟩
    · have hltz : ¬ (i : Int) < (l.length : Int) := by omega
      have hrow : RowM wr w.heap.size g cap (lowS l) := by have := HR.out; rw [List.take_of_length_le (by omega), List.drop_eq_nil_of_le (by omega), List.append_nil] at this; exact this
      have htx := hrow.text cap
      have hll : (lowS l).length = l.length := by unfold lowS; rw [List.length_map]
      rw [hll] at htx
      clear hrow
      go_wp2_with fail
      go_ret
      exact ⟨rfl, HB.out⟩
end Go.Proofs.YtipjkjcmceeaeaaGreatDoor
