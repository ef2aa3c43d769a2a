/- fixed: the walk. -/
import Derived.Test.YtbmhiejggkdnkaaGreatDoorFixed0
namespace Go.Proofs.YtbmhiejggkdnkaaGreatDoor
open Go.RowKit

set_option maxRecDepth 100000 in
set_option maxHeartbeats 3200000 in
theorem fixed_any (w : World) : Calls Tryz.prog 7 #[] w fun e w' => e = .returned (.bool true) ∧ Below w.heap.size w w' := by
  go_enter Tryz.func7, Tryz.ntmps7
  go_wp2_with fail
  refine (Pow_any ⟨#[2]⟩ ⟨#[10]⟩ ⟨#[3, 232]⟩ _ (by decide) (by decide) (by decide)).mono ?_
  rintro e w1 ⟨⟨l, n, rfl, h⟩, hb1⟩
  obtain ⟨rfl, rfl⟩ := fix_pow h
  clear h
  unfold ret2
  go_wp2_with fail
  refine (Inv_any ⟨#[3]⟩ ⟨#[7]⟩ _ (by decide) (by decide)).mono ?_
  rintro e w2 ⟨⟨l, n, rfl, h⟩, hb2⟩
  obtain ⟨rfl, rfl⟩ := fix_inv h
  clear h
  unfold ret2
  have hb2 := hb1.trans (hb2.mono hb1.size)
  clear hb1
  go_wp2_with fail
  refine (Inv_any ⟨#[2]⟩ ⟨#[4]⟩ _ (by decide) (by decide)).mono ?_
  rintro e w3 ⟨⟨l, n, rfl, h⟩, hb3⟩
  obtain ⟨rfl, rfl⟩ := fix_none h
  clear h
  unfold ret2
  have hb3 := hb2.trans (hb3.mono hb2.size)
  clear hb2
  go_wp2_with fail
  refine (Mont_any ⟨#[1]⟩ ⟨#[1]⟩ ⟨#[7]⟩ _ (by decide) (by decide) (by decide)).mono ?_
  rintro e w4 ⟨⟨l, n, rfl, h⟩, hb4⟩
  obtain ⟨rfl, rfl⟩ := fix_mont h
  clear h
  unfold ret2
  have hb4 := hb3.trans (hb4.mono hb3.size)
  clear hb3
  go_wp2_with fail
  refine (Mont_any ⟨#[5]⟩ ⟨#[3]⟩ ⟨#[8]⟩ _ (by decide) (by decide) (by decide)).mono ?_
  rintro e w5 ⟨⟨l, n, rfl, h⟩, hb5⟩
  obtain ⟨rfl, rfl⟩ := fix_even h
  clear h
  unfold ret2
  have hb5 := hb4.trans (hb5.mono hb4.size)
  clear hb4
  go_wp2_with fail
  refine (Div_any ⟨#[1, 0]⟩ ⟨#[7]⟩ _ (by decide) (by decide)).mono ?_
  rintro e w6 ⟨rfl, hb6⟩
  rw [fix_div]
  unfold ret3
  have hb6 := hb5.trans (hb6.mono hb5.size)
  clear hb5
  go_wp2_with fail
  refine (Pad_any ⟨#[1, 0]⟩ 1 _ (by decide)).mono ?_
  rintro e w7 ⟨rfl, hb7⟩
  rw [fix_pad]
  unfold ret2
  have hb7 := hb6.trans (hb7.mono hb6.size)
  clear hb6
  go_wp2_with fail
  refine (Div_any ⟨#[1]⟩ ⟨#[]⟩ _ (by decide) (by decide)).mono ?_
  rintro e w8 ⟨rfl, hb8⟩
  rw [fix_zero]
  unfold ret3
  have hb8 := hb7.trans (hb8.mono hb7.size)
  clear hb7
  go_wp2_with fail
  refine (Sub_any ⟨#[1]⟩ ⟨#[2]⟩ _ (by decide) (by decide)).mono ?_
  rintro e w9 ⟨rfl, hb9⟩
  rw [fix_sub]
  unfold ret2
  have hb9 := hb8.trans (hb9.mono hb8.size)
  clear hb8
  go_wp2_with fail
  refine (Trim_any ⟨#[0, 1]⟩ _).mono ?_
  rintro e w10 ⟨rfl, rfl⟩
  rw [fix_trim]
  go_wp2_with fail
  refine (Bits_any ⟨#[0, 1, 0]⟩ _ (by decide)).mono ?_
  rintro e w10 ⟨rfl, q, rfl⟩
  rw [fix_bits]
  go_wp2_with fail
  go_ret
  exact ⟨rfl, below_drawn hb9 q⟩
end Go.Proofs.YtbmhiejggkdnkaaGreatDoor
