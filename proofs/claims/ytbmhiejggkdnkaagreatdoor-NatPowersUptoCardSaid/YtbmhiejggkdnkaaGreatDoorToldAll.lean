/- told and answered: the walks. (Printed by gen_told.py.) -/
import Derived.Test.YtbmhiejggkdnkaaGreatDoorTold
namespace Go.Proofs.YtbmhiejggkdnkaaGreatDoor
open Go.RowKit

theorem is_same (a : ByteArray) (w : World) :
    Calls Tryz.prog 56 #[.iface 72 (.string a), .iface 72 (.string a)] w fun e w' => e = .returned (.bool true) ∧ w = w' :=
  (is_any a a w).mono fun _ _ ⟨he, hw⟩ => ⟨by rw [he]; simp, hw⟩
theorem is_other (a b : ByteArray) (w : World) (h : (a.data == b.data) = false) :
    Calls Tryz.prog 56 #[.iface 72 (.string a), .iface 72 (.string b)] w fun e w' => e = .returned (.bool false) ∧ w = w' :=
  (is_any a b w).mono fun _ _ ⟨he, hw⟩ => ⟨by
    have hne : ¬ a.toList = b.toList := by
      rw [ByteArray.toList_eq, ByteArray.toList_eq]
      intro h1
      have := Array.toList_inj.1 h1
      rw [this] at h
      simp at h
    rw [he]; simp [hne], hw⟩

set_option maxRecDepth 100000 in
theorem toldLong (w : World) : Calls Tryz.prog 38 #[errLong] w fun e w' => e = .returned (.int .i64 30) ∧ w = w' := by
  unfold errLong
  go_enter Tryz.func38, Tryz.ntmps38
  go_wp2_with fail
  refine (is_same ⟨#[116, 111, 111, 32, 108, 111, 110, 103]⟩ _).mono ?_
  rintro e w' ⟨rfl, rfl⟩
  go_wp2_with fail
  go_ret
  exact ⟨rfl, rfl⟩

theorem answeredLong (w : World) : Calls Tryz.prog 25 #[.slice none 0 0, errLong] w fun e w' => e = .returned (.tuple #[.string ⟨#[]⟩, .int .i64 30]) ∧ w = w' := by
  have ht := toldLong
  unfold errLong at ht ⊢
  have HT := Lib.hid ht; clear ht
  go_enter Tryz.func25, Tryz.ntmps25
  go_wp2_with (go_at_call 38; refine (HT.out _).mono ?_; rintro e w' ⟨rfl, rfl⟩)
  go_ret2
  exact ⟨rfl, rfl⟩

set_option maxRecDepth 100000 in
theorem toldZero (w : World) : Calls Tryz.prog 38 #[errZero] w fun e w' => e = .returned (.int .i64 31) ∧ w = w' := by
  unfold errZero
  go_enter Tryz.func38, Tryz.ntmps38
  go_wp2_with fail
  refine (is_other ⟨#[122, 101, 114, 111]⟩ ⟨#[116, 111, 111, 32, 108, 111, 110, 103]⟩ _ (by decide)).mono ?_
  rintro e w' ⟨rfl, rfl⟩
  go_wp2_with fail
  refine (is_same ⟨#[122, 101, 114, 111]⟩ _).mono ?_
  rintro e w' ⟨rfl, rfl⟩
  go_wp2_with fail
  go_ret
  exact ⟨rfl, rfl⟩

theorem answeredZero (w : World) : Calls Tryz.prog 25 #[.slice none 0 0, errZero] w fun e w' => e = .returned (.tuple #[.string ⟨#[]⟩, .int .i64 31]) ∧ w = w' := by
  have ht := toldZero
  unfold errZero at ht ⊢
  have HT := Lib.hid ht; clear ht
  go_enter Tryz.func25, Tryz.ntmps25
  go_wp2_with (go_at_call 38; refine (HT.out _).mono ?_; rintro e w' ⟨rfl, rfl⟩)
  go_ret2
  exact ⟨rfl, rfl⟩

set_option maxRecDepth 100000 in
theorem toldBelow (w : World) : Calls Tryz.prog 38 #[errBelow] w fun e w' => e = .returned (.int .i64 32) ∧ w = w' := by
  unfold errBelow
  go_enter Tryz.func38, Tryz.ntmps38
  go_wp2_with fail
  refine (is_other ⟨#[98, 101, 108, 111, 119, 32, 122, 101, 114, 111]⟩ ⟨#[116, 111, 111, 32, 108, 111, 110, 103]⟩ _ (by decide)).mono ?_
  rintro e w' ⟨rfl, rfl⟩
  go_wp2_with fail
  refine (is_other ⟨#[98, 101, 108, 111, 119, 32, 122, 101, 114, 111]⟩ ⟨#[122, 101, 114, 111]⟩ _ (by decide)).mono ?_
  rintro e w' ⟨rfl, rfl⟩
  go_wp2_with fail
  refine (is_same ⟨#[98, 101, 108, 111, 119, 32, 122, 101, 114, 111]⟩ _).mono ?_
  rintro e w' ⟨rfl, rfl⟩
  go_wp2_with fail
  go_ret
  exact ⟨rfl, rfl⟩

theorem answeredBelow (w : World) : Calls Tryz.prog 25 #[.slice none 0 0, errBelow] w fun e w' => e = .returned (.tuple #[.string ⟨#[]⟩, .int .i64 32]) ∧ w = w' := by
  have ht := toldBelow
  unfold errBelow at ht ⊢
  have HT := Lib.hid ht; clear ht
  go_enter Tryz.func25, Tryz.ntmps25
  go_wp2_with (go_at_call 38; refine (HT.out _).mono ?_; rintro e w' ⟨rfl, rfl⟩)
  go_ret2
  exact ⟨rfl, rfl⟩

set_option maxRecDepth 100000 in
theorem toldNone (w : World) : Calls Tryz.prog 38 #[errNone] w fun e w' => e = .returned (.int .i64 33) ∧ w = w' := by
  unfold errNone
  go_enter Tryz.func38, Tryz.ntmps38
  go_wp2_with fail
  refine (is_other ⟨#[110, 111, 32, 105, 110, 118, 101, 114, 115, 101]⟩ ⟨#[116, 111, 111, 32, 108, 111, 110, 103]⟩ _ (by decide)).mono ?_
  rintro e w' ⟨rfl, rfl⟩
  go_wp2_with fail
  refine (is_other ⟨#[110, 111, 32, 105, 110, 118, 101, 114, 115, 101]⟩ ⟨#[122, 101, 114, 111]⟩ _ (by decide)).mono ?_
  rintro e w' ⟨rfl, rfl⟩
  go_wp2_with fail
  refine (is_other ⟨#[110, 111, 32, 105, 110, 118, 101, 114, 115, 101]⟩ ⟨#[98, 101, 108, 111, 119, 32, 122, 101, 114, 111]⟩ _ (by decide)).mono ?_
  rintro e w' ⟨rfl, rfl⟩
  go_wp2_with fail
  refine (is_same ⟨#[110, 111, 32, 105, 110, 118, 101, 114, 115, 101]⟩ _).mono ?_
  rintro e w' ⟨rfl, rfl⟩
  go_wp2_with fail
  go_ret
  exact ⟨rfl, rfl⟩

theorem answeredNone (w : World) : Calls Tryz.prog 25 #[.slice none 0 0, errNone] w fun e w' => e = .returned (.tuple #[.string ⟨#[]⟩, .int .i64 33]) ∧ w = w' := by
  have ht := toldNone
  unfold errNone at ht ⊢
  have HT := Lib.hid ht; clear ht
  go_enter Tryz.func25, Tryz.ntmps25
  go_wp2_with (go_at_call 38; refine (HT.out _).mono ?_; rintro e w' ⟨rfl, rfl⟩)
  go_ret2
  exact ⟨rfl, rfl⟩

set_option maxRecDepth 100000 in
theorem toldEven (w : World) : Calls Tryz.prog 38 #[errEven] w fun e w' => e = .returned (.int .i64 34) ∧ w = w' := by
  unfold errEven
  go_enter Tryz.func38, Tryz.ntmps38
  go_wp2_with fail
  refine (is_other ⟨#[101, 118, 101, 110]⟩ ⟨#[116, 111, 111, 32, 108, 111, 110, 103]⟩ _ (by decide)).mono ?_
  rintro e w' ⟨rfl, rfl⟩
  go_wp2_with fail
  refine (is_other ⟨#[101, 118, 101, 110]⟩ ⟨#[122, 101, 114, 111]⟩ _ (by decide)).mono ?_
  rintro e w' ⟨rfl, rfl⟩
  go_wp2_with fail
  refine (is_other ⟨#[101, 118, 101, 110]⟩ ⟨#[98, 101, 108, 111, 119, 32, 122, 101, 114, 111]⟩ _ (by decide)).mono ?_
  rintro e w' ⟨rfl, rfl⟩
  go_wp2_with fail
  refine (is_other ⟨#[101, 118, 101, 110]⟩ ⟨#[110, 111, 32, 105, 110, 118, 101, 114, 115, 101]⟩ _ (by decide)).mono ?_
  rintro e w' ⟨rfl, rfl⟩
  go_wp2_with fail
  refine (is_same ⟨#[101, 118, 101, 110]⟩ _).mono ?_
  rintro e w' ⟨rfl, rfl⟩
  go_wp2_with fail
  go_ret
  exact ⟨rfl, rfl⟩

theorem answeredEven (w : World) : Calls Tryz.prog 25 #[.slice none 0 0, errEven] w fun e w' => e = .returned (.tuple #[.string ⟨#[]⟩, .int .i64 34]) ∧ w = w' := by
  have ht := toldEven
  unfold errEven at ht ⊢
  have HT := Lib.hid ht; clear ht
  go_enter Tryz.func25, Tryz.ntmps25
  go_wp2_with (go_at_call 38; refine (HT.out _).mono ?_; rintro e w' ⟨rfl, rfl⟩)
  go_ret2
  exact ⟨rfl, rfl⟩

theorem answered_ok (ao : Option Addr) (n c v : Nat) (w : World) (ha : Num w ao n c v) (hn : n ≤ 10000000) :
    Calls Tryz.prog 25 #[.slice ao n c, .nilIface] w fun e w' => e = .returned (.tuple #[.string ⟨(fm v).toArray⟩, .int .i64 0]) ∧ Below w.heap.size w w' := by
  go_enter Tryz.func25, Tryz.ntmps25
  go_wp2_with (go_at_call 40; refine (form_any ao n c v _ ha hn).mono ?_; rintro e w' ⟨rfl, hbel⟩)
  go_ret2
  exact ⟨rfl, hbel⟩
end Go.Proofs.YtbmhiejggkdnkaaGreatDoor
