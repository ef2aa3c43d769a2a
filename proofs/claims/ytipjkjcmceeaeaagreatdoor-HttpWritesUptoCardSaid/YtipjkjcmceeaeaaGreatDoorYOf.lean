/- http.of: the walk. -/
import Derived.Test.YtipjkjcmceeaeaaGreatDoorYPred
import Derived.Shelf.Abstract
namespace Go.Proofs.YtipjkjcmceeaeaaGreatDoor
open Go.RowKit

/-- A function that looks at one byte and leaves the world as it is. -/
def Looks (g : Nat) (p : UInt8 → Bool) : Prop := (∀ args w, (callFunc g args).run Tryz.prog w = .ok (.enter g args) w) ∧ ∀ (x : UInt8) w, Calls Tryz.prog g #[.int .u8 (x.toNat : Nat)] w fun e w' => e = .returned (.bool (p x)) ∧ w' = w
theorem take_all {p : UInt8 → Bool} {l : List UInt8} {i : Nat} {x : UInt8} (hx : l[i]? = some x) : (l.take (i + 1)).all p = ((l.take i).all p && p x) := by
  obtain ⟨h, e⟩ := List.getElem?_eq_some_iff.1 hx
  rw [List.take_succ_eq_append_getElem h, List.all_append, e]
  simp
theorem all_false {p : UInt8 → Bool} {l : List UInt8} {i : Nat} {x : UInt8} (hx : l[i]? = some x) (hp : p x = false) : l.all p = false := by
  cases h : l.all p with
  | false => rfl
  | true => rw [List.all_eq_true.1 h x (List.mem_of_getElem? hx)] at hp; cases hp
set_option maxRecDepth 100000 in
set_option maxHeartbeats 2000000 in
theorem of_any (g : Nat) (p : UInt8 → Bool) (hg : Looks g p) (l : List UInt8) (lo hi : Nat) (w : World) (hl : l.length ≤ SB) :
    Calls Tryz.prog 46 #[.string (bs l), .int .i64 (lo : Nat), .int .i64 (hi : Nat), .func (.func g) #[] #[]] w fun e w' => e = .returned (.bool (ofB lo hi p l)) ∧ w' = w := by
  have hSB := SB_eq
  obtain ⟨eg, hp⟩ := hg
  have hsz := bs_size l
  have HP := Lib.hid hp
  clear hp
  go_enter Tryz.func46, Tryz.ntmps46
  go_upto_region 2 with fail
  go_loopg [12] l.length (fun gg s12 wr => ∃ (i : Nat), i ≤ l.length ∧ gg = l.length - i ∧ s12 = .int .i64 i ∧ wr = w ∧ Aside ((l.take i).all p = true))
  case atStart => exact ⟨0, Nat.zero_le _, rfl, rfl, rfl, rfl⟩
  case round =>
    obtain ⟨i, hil, rfl, rfl, rfl, HA⟩ := hrel
    by_cases hlt : i < l.length
    · have hltz : (i : Int) < (l.length : Int) := by omega
      obtain ⟨x, hx⟩ : ∃ x, l[i]? = some x := ⟨l[i], by simp [hlt]⟩
      have hgi := bs_get l i x hx
      have HX := Lib.hid hx
      clear hx
      cases hpx : p x with
      | false =>
        have HC : Hid (∀ u, Calls Tryz.prog g #[.int .u8 (x.toNat : Nat)] u fun e w' => e = .returned (.bool false) ∧ w' = u) := Lib.hid fun u => by have := HP.out x u; rw [hpx] at this; exact this
        have HR : Hid (ofB lo hi p l = false) := Lib.hid (by unfold ofB; rw [all_false HX.out hpx]; rfl)
        clear hpx
        go_wp2_with fail
        refine (HC.out _).mono ?_
        rintro e w1 ⟨rfl, rfl⟩
        go_wp2_with fail
        go_ret
        rw [HR.out]
        exact ⟨rfl, rfl⟩
      | true =>
        have HC : Hid (∀ u, Calls Tryz.prog g #[.int .u8 (x.toNat : Nat)] u fun e w' => e = .returned (.bool true) ∧ w' = u) := Lib.hid fun u => by have := HP.out x u; rw [hpx] at this; exact this
        have HA2 : Hid ((l.take (i + 1)).all p = true) := Lib.hid (by rw [take_all HX.out, HA.out, hpx]; rfl)
        clear hpx
        go_wp2_with fail
        refine (HC.out _).mono ?_
        rintro e w1 ⟨rfl, rfl⟩
        go_wp2_with fail
        go_roundg (l.length - (i + 1))
        case measure => omega
        case rel => exact ⟨i + 1, by omega, rfl, by go_num, rfl, HA2.out⟩
    · have hltz : ¬ (i : Int) < (l.length : Int) := by omega
      have hall : l.all p = true := by have := HA.out; rw [List.take_of_length_le (by omega)] at this; exact this
      have HAL := Lib.hid hall
      clear hall
      by_cases hlo : lo ≤ l.length
      · have zlo : (lo : Int) ≤ (l.length : Int) := by omega
        by_cases hhi : l.length ≤ hi
        · have zhi : (l.length : Int) ≤ (hi : Int) := by omega
          have HR : Hid (ofB lo hi p l = true) := Lib.hid (by unfold ofB; rw [HAL.out, decide_eq_true hlo, decide_eq_true hhi]; rfl)
          clear hlo hhi
          go_wp2_with fail
          go_ret
          rw [HR.out]
          exact ⟨rfl, rfl⟩
        · have zhi : ¬ (l.length : Int) ≤ (hi : Int) := by omega
          have HR : Hid (ofB lo hi p l = false) := Lib.hid (by unfold ofB; rw [decide_eq_false hhi, Bool.and_false])
          clear hlo hhi
          go_wp2_with fail
          go_ret
          rw [HR.out]
          exact ⟨rfl, rfl⟩
      · have zlo : ¬ (lo : Int) ≤ (l.length : Int) := by omega
        have HR : Hid (ofB lo hi p l = false) := Lib.hid (by unfold ofB; rw [decide_eq_false hlo, Bool.and_false, Bool.false_and])
        clear hlo
        go_wp2_with fail
        go_ret
        rw [HR.out]
        exact ⟨rfl, rfl⟩
theorem lk_upper : Looks 44 upC := ⟨enters_of Tryz.func44 (by kernel_rfl) rfl, upC_upper_any⟩
theorem lk_digit : Looks 73 dgC := ⟨enters_of Tryz.func73 (by kernel_rfl) rfl, dgC_digit_any⟩
theorem lk_small : Looks 43 smC := ⟨enters_of Tryz.func43 (by kernel_rfl) rfl, smC_small_any⟩
theorem lk_host : Looks 97 hoC := ⟨enters_of Tryz.func97 (by kernel_rfl) rfl, hoC_host_any⟩
theorem lk_plain : Looks 98 plC := ⟨enters_of Tryz.func98 (by kernel_rfl) rfl, plC_plain_any⟩
theorem lk_target : Looks 75 taC := ⟨enters_of Tryz.func75 (by kernel_rfl) rfl, taC_target_any⟩
theorem lk_name : Looks 55 nmC := ⟨enters_of Tryz.func55 (by kernel_rfl) rfl, nmC_read1_any⟩
theorem lk_nonce : Looks 42 noC := ⟨enters_of Tryz.func42 (by kernel_rfl) rfl, noC_Answer1_any⟩
end Go.Proofs.YtipjkjcmceeaeaaGreatDoor
