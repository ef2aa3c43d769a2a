/- RsaFits: for every input true. -/
import Derived.Test.YtjkjlbchbbpmaaaGreatDoorZU2
namespace Go.Proofs.YtjkjlbchbbpmaaaGreatDoor.rsaFits
open Go.RowKit

set_option maxRecDepth 100000 in
set_option maxHeartbeats 1600000 in
theorem law_core (s block : ByteArray) (b : Int) (q : Bool) (w : World)
    (h0 : ∀ w : World, Calls Tryz.prog 10 #[] w fun e w' => e = .returned (.bool true) ∧ Below w.heap.size w w')
    (h1 : ∀ w : World, Calls Tryz.prog 22 #[.string s, .string block, .int .i64 b] w fun e w' => e = .returned (.bool q) ∧ Below w.heap.size w w')
    (h2 : ∀ w : World, Calls Tryz.prog 23 #[.string s, .string block, .int .i64 b] w fun e w' => e = .returned (.bool q) ∧ Below w.heap.size w w') :
    Calls Tryz.prog 8 #[.string s, .string block, .int .i64 b] w fun e w' => e = .returned (.bool true) ∧ Below w.heap.size w w' := by
  have H0 := Lib.hid h0; have H1 := Lib.hid h1; have H2 := Lib.hid h2
  clear h0 h1 h2
  have hqq : (q == q) = true := by cases q <;> rfl
  have hR := Rws.start w
  go_enter Tryz.func8, Tryz.ntmps8
  go_wp2_with fail
  refine (H1.out _).mono ?_
  rintro e w1 ⟨rfl, hb⟩
  have hR := hR.call hb
  clear hb
  go_wp2_with fail
  refine (H2.out _).mono ?_
  rintro e w2 ⟨rfl, hb⟩
  have hR := hR.call hb
  clear hb
  go_wp2_with fail
  refine (H0.out _).mono ?_
  rintro e w3 ⟨rfl, hb⟩
  have hres := (hR.call hb).below
  clear hb hR
  go_wp2_with fail
  go_ret
  exact ⟨rfl, hres⟩

theorem law_any (s block : ByteArray) (b : Int) (w : World) (hs : s.size ≤ 140737488351232) (_hb : block.size ≤ 140737488351232) (_h1 : -9223372036854775808 ≤ b) (_h2 : b ≤ 9223372036854775807) :
    Calls Tryz.prog 8 #[.string s, .string block, .int .i64 b] w fun e w' => e = .returned (.bool true) ∧ Below w.heap.size w w' := by
  by_cases hF : FormC block b
  · obtain ⟨h1, h2, h3, h66⟩ := hF
    obtain ⟨j, hj⟩ := Int.eq_ofNat_of_zero_le (show 0 ≤ 8 * (block.size : Int) - b by omega)
    have hj7 : j ≤ 7 := by omega
    obtain ⟨T, hT⟩ : ∃ T, T = 2 ^ (8 - j) := ⟨_, rfl⟩
    have hiff := fits_iff (hashIn s (saltOf block T)) block T (8 - j) hT (by omega) h66 rfl
    obtain ⟨q, hq⟩ : ∃ q : Bool, q = @decide (FineP s block T) (Classical.propDecidable _) := ⟨_, rfl⟩
    have hc : ∀ w : World, Calls Tryz.prog 22 #[.string s, .string block, .int .i64 b] w fun e w' => e = .returned (.bool q) ∧ Below w.heap.size w w' := fun w => by
      rw [hq]
      exact @Fits_core s block b w (FineP s block T) (Classical.propDecidable _) (fun w => fits_run s block b block.size j T w hs rfl h66 (by omega) h1 h2 h3 hj hj7 hT)
    refine law_core s block b q w fixed_any hc (fun w => rfits_run s block b block.size j T w (by omega) rfl h66 (by omega) h1 h2 h3 hj hj7 hT q ?_)
    have e1 : (block.toList == (⟨(pssL (hashIn s (saltOf block T)) (saltOf block T) block.size T).toArray⟩ : ByteArray).toList) = true ↔ FineP s block T := by
      rw [beq_iff_eq, Lib.toList_data, Lib.toList_data]
      exact hiff
    rw [hq]
    by_cases hp : FineP s block T
    · rw [e1.2 hp]; exact (@decide_eq_true _ (Classical.propDecidable _) hp).symm
    · rw [@decide_eq_false _ (Classical.propDecidable _) hp]
      cases hx : (block.toList == (⟨(pssL (hashIn s (saltOf block T)) (saltOf block T) block.size T).toArray⟩ : ByteArray).toList) with
      | false => rfl
      | true => exact absurd (e1.1 hx) hp
  · refine law_core s block b false w fixed_any (fun w => ?_) (fun w => rfits_form s block b w hF)
    exact Fits_core s block b w False (fun w => (fits_form s block b w hF).mono fun _ _ ⟨hw, hb⟩ => ⟨Or.inr ⟨id, hw⟩, hb⟩)
end Go.Proofs.YtjkjlbchbbpmaaaGreatDoor.rsaFits
