/- The program's looks at one byte: the walks. -/
import Derived.Test.YtipjkjcmceeaeaaGreatDoorYRws
import Derived.Test.YtipjkjcmceeaeaaGreatDoorYDefs
import Derived.Deep.Light
namespace Go.Proofs.YtipjkjcmceeaeaaGreatDoor
open Go.RowKit

set_option maxRecDepth 100000 in
set_option maxHeartbeats 4000000 in
theorem upC_upper_any (x : UInt8) (w : World) : Calls Tryz.prog 44 #[.int .u8 (x.toNat : Nat)] w fun e w' => e = .returned (.bool (upC x)) ∧ w' = w := by
  have hx : x.toNat < 256 := x.toNat_lt
  obtain ⟨R, hR⟩ : ∃ R, R = upC x := ⟨_, rfl⟩
  rw [← hR]
  have hw : R = true ↔ (65 ≤ x.toNat) ∧ (x.toNat ≤ 90) := by
    rw [hR]; unfold upC; exact decide_eq_true_iff.trans ⟨fun h => by omega, fun h => by omega⟩
  have HW := Lib.hid hw
  clear hR hw
  generalize x.toNat = m at *
  by_cases hl65 : 65 ≤ m
  · have zl65 : (65 : Int) ≤ (m : Int) := by omega
    by_cases hg90 : m ≤ 90
    · have zg90 : (m : Int) ≤ 90 := by omega
      have HE : Hid (true = R) := Lib.hid ((HW.out.2 (⟨by omega, by omega⟩)).symm)
      clear HW hl65 hg90
      go_enter Tryz.func44, Tryz.ntmps44
      go_wp2_with fail
      go_ret
      exact ⟨congrArg (fun b : Bool => Ending.returned (Value.bool b)) HE.out, rfl⟩
    · have zg90 : ¬ (m : Int) ≤ 90 := by omega
      have HE : Hid (false = R) := Lib.hid ((Bool.eq_false_iff.2 (fun h0 => (fun h => (fun h => by omega) h.2) (HW.out.1 h0))).symm)
      clear HW hl65 hg90
      go_enter Tryz.func44, Tryz.ntmps44
      go_wp2_with fail
      go_ret
      exact ⟨congrArg (fun b : Bool => Ending.returned (Value.bool b)) HE.out, rfl⟩
  · have zl65 : ¬ (65 : Int) ≤ (m : Int) := by omega
    have HE : Hid (false = R) := Lib.hid ((Bool.eq_false_iff.2 (fun h0 => (fun h => (fun h => by omega) h.1) (HW.out.1 h0))).symm)
    clear HW hl65
    go_enter Tryz.func44, Tryz.ntmps44
    go_wp2_with fail
    go_ret
    exact ⟨congrArg (fun b : Bool => Ending.returned (Value.bool b)) HE.out, rfl⟩
set_option maxRecDepth 100000 in
set_option maxHeartbeats 4000000 in
theorem dgC_digit_any (x : UInt8) (w : World) : Calls Tryz.prog 73 #[.int .u8 (x.toNat : Nat)] w fun e w' => e = .returned (.bool (dgC x)) ∧ w' = w := by
  have hx : x.toNat < 256 := x.toNat_lt
  obtain ⟨R, hR⟩ : ∃ R, R = dgC x := ⟨_, rfl⟩
  rw [← hR]
  have hw : R = true ↔ (48 ≤ x.toNat) ∧ (x.toNat ≤ 57) := by
    rw [hR]; unfold dgC; exact decide_eq_true_iff.trans ⟨fun h => by omega, fun h => by omega⟩
  have HW := Lib.hid hw
  clear hR hw
  generalize x.toNat = m at *
  by_cases hl48 : 48 ≤ m
  · have zl48 : (48 : Int) ≤ (m : Int) := by omega
    by_cases hg57 : m ≤ 57
    · have zg57 : (m : Int) ≤ 57 := by omega
      have HE : Hid (true = R) := Lib.hid ((HW.out.2 (⟨by omega, by omega⟩)).symm)
      clear HW hl48 hg57
      go_enter Tryz.func73, Tryz.ntmps73
      go_wp2_with fail
      go_ret
      exact ⟨congrArg (fun b : Bool => Ending.returned (Value.bool b)) HE.out, rfl⟩
    · have zg57 : ¬ (m : Int) ≤ 57 := by omega
      have HE : Hid (false = R) := Lib.hid ((Bool.eq_false_iff.2 (fun h0 => (fun h => (fun h => by omega) h.2) (HW.out.1 h0))).symm)
      clear HW hl48 hg57
      go_enter Tryz.func73, Tryz.ntmps73
      go_wp2_with fail
      go_ret
      exact ⟨congrArg (fun b : Bool => Ending.returned (Value.bool b)) HE.out, rfl⟩
  · have zl48 : ¬ (48 : Int) ≤ (m : Int) := by omega
    have HE : Hid (false = R) := Lib.hid ((Bool.eq_false_iff.2 (fun h0 => (fun h => (fun h => by omega) h.1) (HW.out.1 h0))).symm)
    clear HW hl48
    go_enter Tryz.func73, Tryz.ntmps73
    go_wp2_with fail
    go_ret
    exact ⟨congrArg (fun b : Bool => Ending.returned (Value.bool b)) HE.out, rfl⟩
set_option maxRecDepth 100000 in
set_option maxHeartbeats 4000000 in
theorem smC_small_any (x : UInt8) (w : World) : Calls Tryz.prog 43 #[.int .u8 (x.toNat : Nat)] w fun e w' => e = .returned (.bool (smC x)) ∧ w' = w := by
  have hx : x.toNat < 256 := x.toNat_lt
  obtain ⟨R, hR⟩ : ∃ R, R = smC x := ⟨_, rfl⟩
  rw [← hR]
  have hw : R = true ↔ (((97 ≤ x.toNat) ∧ (x.toNat ≤ 122)) ∨ (dgC x = true)) ∨ (x.toNat = 45) := by
    rw [hR]; unfold smC; simp only [Bool.or_eq_true, decide_eq_true_eq]
  have HW := Lib.hid hw
  have H0cdgC : Hid (∀ u, Calls Tryz.prog 73 #[.int .u8 (x.toNat : Nat)] u fun e w' => e = .returned (.bool (dgC x)) ∧ w' = u) := Lib.hid fun u => dgC_digit_any x u
  clear hR hw
  generalize x.toNat = m at *
  by_cases hl97 : 97 ≤ m
  · have zl97 : (97 : Int) ≤ (m : Int) := by omega
    by_cases hg122 : m ≤ 122
    · have zg122 : (m : Int) ≤ 122 := by omega
      have HE : Hid (true = R) := Lib.hid ((HW.out.2 (Or.inl (Or.inl (⟨by omega, by omega⟩)))).symm)
      clear HW hl97 hg122 H0cdgC
      go_enter Tryz.func43, Tryz.ntmps43
      go_wp2_with fail
      go_ret
      exact ⟨congrArg (fun b : Bool => Ending.returned (Value.bool b)) HE.out, rfl⟩
    · have zg122 : ¬ (m : Int) ≤ 122 := by omega
      cases hcdgC : dgC x with
      | true =>
        have HcdgC : Hid (∀ u, Calls Tryz.prog 73 #[.int .u8 (m : Nat)] u fun e w' => e = .returned (.bool true) ∧ w' = u) := Lib.hid fun u => by have := H0cdgC.out u; rw [hcdgC] at this; exact this
        have HE : Hid (true = R) := Lib.hid ((HW.out.2 (Or.inl (Or.inr (hcdgC)))).symm)
        clear HW hl97 hg122 hcdgC H0cdgC
        go_enter Tryz.func43, Tryz.ntmps43
        go_wp2_with (first | (go_at_call 73; refine (HcdgC.out _).mono ?_; rintro e w0 ⟨rfl, rfl⟩))
        go_ret
        exact ⟨congrArg (fun b : Bool => Ending.returned (Value.bool b)) HE.out, rfl⟩
      | false =>
        have HcdgC : Hid (∀ u, Calls Tryz.prog 73 #[.int .u8 (m : Nat)] u fun e w' => e = .returned (.bool false) ∧ w' = u) := Lib.hid fun u => by have := H0cdgC.out u; rw [hcdgC] at this; exact this
        by_cases he45 : m = 45
        · have ze45 : ((m : Int) == 45) = true := by rw [he45]; rfl
          have HE : Hid (true = R) := Lib.hid ((HW.out.2 (Or.inr (by omega))).symm)
          clear HW hl97 hg122 hcdgC he45 H0cdgC
          go_enter Tryz.func43, Tryz.ntmps43
          go_wp2_with (first | (go_at_call 73; refine (HcdgC.out _).mono ?_; rintro e w0 ⟨rfl, rfl⟩))
          go_ret
          exact ⟨congrArg (fun b : Bool => Ending.returned (Value.bool b)) HE.out, rfl⟩
        · have ze45 : ((m : Int) == 45) = false := by simp; omega
          have HE : Hid (false = R) := Lib.hid ((Bool.eq_false_iff.2 (fun h0 => (fun h => h.elim (fun h => h.elim (fun h => (fun h => by omega) h.2) (fun h => Bool.false_ne_true (hcdgC.symm.trans h))) (fun h => by omega)) (HW.out.1 h0))).symm)
          clear HW hl97 hg122 hcdgC he45 H0cdgC
          go_enter Tryz.func43, Tryz.ntmps43
          go_wp2_with (first | (go_at_call 73; refine (HcdgC.out _).mono ?_; rintro e w0 ⟨rfl, rfl⟩))
          go_ret
          exact ⟨congrArg (fun b : Bool => Ending.returned (Value.bool b)) HE.out, rfl⟩
  · have zl97 : ¬ (97 : Int) ≤ (m : Int) := by omega
    cases hcdgC : dgC x with
    | true =>
      have HcdgC : Hid (∀ u, Calls Tryz.prog 73 #[.int .u8 (m : Nat)] u fun e w' => e = .returned (.bool true) ∧ w' = u) := Lib.hid fun u => by have := H0cdgC.out u; rw [hcdgC] at this; exact this
      have HE : Hid (true = R) := Lib.hid ((HW.out.2 (Or.inl (Or.inr (hcdgC)))).symm)
      clear HW hl97 hcdgC H0cdgC
      go_enter Tryz.func43, Tryz.ntmps43
      go_wp2_with (first | (go_at_call 73; refine (HcdgC.out _).mono ?_; rintro e w0 ⟨rfl, rfl⟩))
      go_ret
      exact ⟨congrArg (fun b : Bool => Ending.returned (Value.bool b)) HE.out, rfl⟩
    | false =>
      have HcdgC : Hid (∀ u, Calls Tryz.prog 73 #[.int .u8 (m : Nat)] u fun e w' => e = .returned (.bool false) ∧ w' = u) := Lib.hid fun u => by have := H0cdgC.out u; rw [hcdgC] at this; exact this
      by_cases he45 : m = 45
      · have ze45 : ((m : Int) == 45) = true := by rw [he45]; rfl
        have HE : Hid (true = R) := Lib.hid ((HW.out.2 (Or.inr (by omega))).symm)
        clear HW hl97 hcdgC he45 H0cdgC
        go_enter Tryz.func43, Tryz.ntmps43
        go_wp2_with (first | (go_at_call 73; refine (HcdgC.out _).mono ?_; rintro e w0 ⟨rfl, rfl⟩))
        go_ret
        exact ⟨congrArg (fun b : Bool => Ending.returned (Value.bool b)) HE.out, rfl⟩
      · have ze45 : ((m : Int) == 45) = false := by simp; omega
        have HE : Hid (false = R) := Lib.hid ((Bool.eq_false_iff.2 (fun h0 => (fun h => h.elim (fun h => h.elim (fun h => (fun h => by omega) h.1) (fun h => Bool.false_ne_true (hcdgC.symm.trans h))) (fun h => by omega)) (HW.out.1 h0))).symm)
        clear HW hl97 hcdgC he45 H0cdgC
        go_enter Tryz.func43, Tryz.ntmps43
        go_wp2_with (first | (go_at_call 73; refine (HcdgC.out _).mono ?_; rintro e w0 ⟨rfl, rfl⟩))
        go_ret
        exact ⟨congrArg (fun b : Bool => Ending.returned (Value.bool b)) HE.out, rfl⟩
set_option maxRecDepth 100000 in
set_option maxHeartbeats 4000000 in
theorem hoC_host_any (x : UInt8) (w : World) : Calls Tryz.prog 97 #[.int .u8 (x.toNat : Nat)] w fun e w' => e = .returned (.bool (hoC x)) ∧ w' = w := by
  have hx : x.toNat < 256 := x.toNat_lt
  obtain ⟨R, hR⟩ : ∃ R, R = hoC x := ⟨_, rfl⟩
  rw [← hR]
  have hw : R = true ↔ (((smC x = true) ∨ (upC x = true)) ∨ (x.toNat = 46)) ∨ (x.toNat = 58) := by
    rw [hR]; unfold hoC; simp only [Bool.or_eq_true, decide_eq_true_eq]
  have HW := Lib.hid hw
  have H0csmC : Hid (∀ u, Calls Tryz.prog 43 #[.int .u8 (x.toNat : Nat)] u fun e w' => e = .returned (.bool (smC x)) ∧ w' = u) := Lib.hid fun u => smC_small_any x u
  have H0cupC : Hid (∀ u, Calls Tryz.prog 44 #[.int .u8 (x.toNat : Nat)] u fun e w' => e = .returned (.bool (upC x)) ∧ w' = u) := Lib.hid fun u => upC_upper_any x u
  clear hR hw
  generalize x.toNat = m at *
  cases hcsmC : smC x with
  | true =>
    have HcsmC : Hid (∀ u, Calls Tryz.prog 43 #[.int .u8 (m : Nat)] u fun e w' => e = .returned (.bool true) ∧ w' = u) := Lib.hid fun u => by have := H0csmC.out u; rw [hcsmC] at this; exact this
    have HE : Hid (true = R) := Lib.hid ((HW.out.2 (Or.inl (Or.inl (Or.inl (hcsmC))))).symm)
    clear HW hcsmC H0csmC H0cupC
    go_enter Tryz.func97, Tryz.ntmps97
    go_wp2_with (first | (go_at_call 43; refine (HcsmC.out _).mono ?_; rintro e w0 ⟨rfl, rfl⟩))
    go_ret
    exact ⟨congrArg (fun b : Bool => Ending.returned (Value.bool b)) HE.out, rfl⟩
  | false =>
    have HcsmC : Hid (∀ u, Calls Tryz.prog 43 #[.int .u8 (m : Nat)] u fun e w' => e = .returned (.bool false) ∧ w' = u) := Lib.hid fun u => by have := H0csmC.out u; rw [hcsmC] at this; exact this
    cases hcupC : upC x with
    | true =>
      have HcupC : Hid (∀ u, Calls Tryz.prog 44 #[.int .u8 (m : Nat)] u fun e w' => e = .returned (.bool true) ∧ w' = u) := Lib.hid fun u => by have := H0cupC.out u; rw [hcupC] at this; exact this
      have HE : Hid (true = R) := Lib.hid ((HW.out.2 (Or.inl (Or.inl (Or.inr (hcupC))))).symm)
      clear HW hcsmC hcupC H0csmC H0cupC
      go_enter Tryz.func97, Tryz.ntmps97
      go_wp2_with (first | (go_at_call 43; refine (HcsmC.out _).mono ?_; rintro e w0 ⟨rfl, rfl⟩) | (go_at_call 44; refine (HcupC.out _).mono ?_; rintro e w1 ⟨rfl, rfl⟩))
      go_ret
      exact ⟨congrArg (fun b : Bool => Ending.returned (Value.bool b)) HE.out, rfl⟩
    | false =>
      have HcupC : Hid (∀ u, Calls Tryz.prog 44 #[.int .u8 (m : Nat)] u fun e w' => e = .returned (.bool false) ∧ w' = u) := Lib.hid fun u => by have := H0cupC.out u; rw [hcupC] at this; exact this
      by_cases he46 : m = 46
      · have ze46 : ((m : Int) == 46) = true := by rw [he46]; rfl
        have HE : Hid (true = R) := Lib.hid ((HW.out.2 (Or.inl (Or.inr (by omega)))).symm)
        clear HW hcsmC hcupC he46 H0csmC H0cupC
        go_enter Tryz.func97, Tryz.ntmps97
        go_wp2_with (first | (go_at_call 43; refine (HcsmC.out _).mono ?_; rintro e w0 ⟨rfl, rfl⟩) | (go_at_call 44; refine (HcupC.out _).mono ?_; rintro e w1 ⟨rfl, rfl⟩))
        go_ret
        exact ⟨congrArg (fun b : Bool => Ending.returned (Value.bool b)) HE.out, rfl⟩
      · have ze46 : ((m : Int) == 46) = false := by simp; omega
        by_cases he58 : m = 58
        · have ze58 : ((m : Int) == 58) = true := by rw [he58]; rfl
          have HE : Hid (true = R) := Lib.hid ((HW.out.2 (Or.inr (by omega))).symm)
          clear HW hcsmC hcupC he46 he58 H0csmC H0cupC
          go_enter Tryz.func97, Tryz.ntmps97
          go_wp2_with (first | (go_at_call 43; refine (HcsmC.out _).mono ?_; rintro e w0 ⟨rfl, rfl⟩) | (go_at_call 44; refine (HcupC.out _).mono ?_; rintro e w1 ⟨rfl, rfl⟩))
          go_ret
          exact ⟨congrArg (fun b : Bool => Ending.returned (Value.bool b)) HE.out, rfl⟩
        · have ze58 : ((m : Int) == 58) = false := by simp; omega
          have HE : Hid (false = R) := Lib.hid ((Bool.eq_false_iff.2 (fun h0 => (fun h => h.elim (fun h => h.elim (fun h => h.elim (fun h => Bool.false_ne_true (hcsmC.symm.trans h)) (fun h => Bool.false_ne_true (hcupC.symm.trans h))) (fun h => by omega)) (fun h => by omega)) (HW.out.1 h0))).symm)
          clear HW hcsmC hcupC he46 he58 H0csmC H0cupC
          go_enter Tryz.func97, Tryz.ntmps97
          go_wp2_with (first | (go_at_call 43; refine (HcsmC.out _).mono ?_; rintro e w0 ⟨rfl, rfl⟩) | (go_at_call 44; refine (HcupC.out _).mono ?_; rintro e w1 ⟨rfl, rfl⟩))
          go_ret
          exact ⟨congrArg (fun b : Bool => Ending.returned (Value.bool b)) HE.out, rfl⟩
set_option maxRecDepth 100000 in
set_option maxHeartbeats 4000000 in
theorem plC_plain_any (x : UInt8) (w : World) : Calls Tryz.prog 98 #[.int .u8 (x.toNat : Nat)] w fun e w' => e = .returned (.bool (plC x)) ∧ w' = w := by
  have hx : x.toNat < 256 := x.toNat_lt
  obtain ⟨R, hR⟩ : ∃ R, R = plC x := ⟨_, rfl⟩
  rw [← hR]
  have hw : R = true ↔ (32 ≤ x.toNat) ∧ (x.toNat ≤ 126) := by
    rw [hR]; unfold plC; exact decide_eq_true_iff.trans ⟨fun h => by omega, fun h => by omega⟩
  have HW := Lib.hid hw
  clear hR hw
  generalize x.toNat = m at *
  by_cases hl32 : 32 ≤ m
  · have zl32 : (32 : Int) ≤ (m : Int) := by omega
    by_cases hg126 : m ≤ 126
    · have zg126 : (m : Int) ≤ 126 := by omega
      have HE : Hid (true = R) := Lib.hid ((HW.out.2 (⟨by omega, by omega⟩)).symm)
      clear HW hl32 hg126
      go_enter Tryz.func98, Tryz.ntmps98
      go_wp2_with fail
      go_ret
      exact ⟨congrArg (fun b : Bool => Ending.returned (Value.bool b)) HE.out, rfl⟩
    · have zg126 : ¬ (m : Int) ≤ 126 := by omega
      have HE : Hid (false = R) := Lib.hid ((Bool.eq_false_iff.2 (fun h0 => (fun h => (fun h => by omega) h.2) (HW.out.1 h0))).symm)
      clear HW hl32 hg126
      go_enter Tryz.func98, Tryz.ntmps98
      go_wp2_with fail
      go_ret
      exact ⟨congrArg (fun b : Bool => Ending.returned (Value.bool b)) HE.out, rfl⟩
  · have zl32 : ¬ (32 : Int) ≤ (m : Int) := by omega
    have HE : Hid (false = R) := Lib.hid ((Bool.eq_false_iff.2 (fun h0 => (fun h => (fun h => by omega) h.1) (HW.out.1 h0))).symm)
    clear HW hl32
    go_enter Tryz.func98, Tryz.ntmps98
    go_wp2_with fail
    go_ret
    exact ⟨congrArg (fun b : Bool => Ending.returned (Value.bool b)) HE.out, rfl⟩
set_option maxRecDepth 100000 in
set_option maxHeartbeats 4000000 in
theorem taC_target_any (x : UInt8) (w : World) : Calls Tryz.prog 75 #[.int .u8 (x.toNat : Nat)] w fun e w' => e = .returned (.bool (taC x)) ∧ w' = w := by
  have hx : x.toNat < 256 := x.toNat_lt
  obtain ⟨R, hR⟩ : ∃ R, R = taC x := ⟨_, rfl⟩
  rw [← hR]
  have hw : R = true ↔ ((33 ≤ x.toNat) ∧ (x.toNat ≤ 126)) ∧ (x.toNat ≠ 35) := by
    rw [hR]; unfold taC; exact decide_eq_true_iff.trans ⟨fun h => by omega, fun h => by omega⟩
  have HW := Lib.hid hw
  clear hR hw
  generalize x.toNat = m at *
  by_cases hl33 : 33 ≤ m
  · have zl33 : (33 : Int) ≤ (m : Int) := by omega
    by_cases hg126 : m ≤ 126
    · have zg126 : (m : Int) ≤ 126 := by omega
      by_cases hn35 : m ≠ 35
      · have zn35 : ((m : Int) != 35) = true := by simp; omega
        have HE : Hid (true = R) := Lib.hid ((HW.out.2 (⟨⟨by omega, by omega⟩, by omega⟩)).symm)
        clear HW hl33 hg126 hn35
        go_enter Tryz.func75, Tryz.ntmps75
        go_wp2_with fail
        go_ret
        exact ⟨congrArg (fun b : Bool => Ending.returned (Value.bool b)) HE.out, rfl⟩
      · have zn35 : ((m : Int) != 35) = false := by simp; omega
        have HE : Hid (false = R) := Lib.hid ((Bool.eq_false_iff.2 (fun h0 => (fun h => (fun h => by omega) h.2) (HW.out.1 h0))).symm)
        clear HW hl33 hg126 hn35
        go_enter Tryz.func75, Tryz.ntmps75
        go_wp2_with fail
        go_ret
        exact ⟨congrArg (fun b : Bool => Ending.returned (Value.bool b)) HE.out, rfl⟩
    · have zg126 : ¬ (m : Int) ≤ 126 := by omega
      have HE : Hid (false = R) := Lib.hid ((Bool.eq_false_iff.2 (fun h0 => (fun h => (fun h => (fun h => by omega) h.2) h.1) (HW.out.1 h0))).symm)
      clear HW hl33 hg126
      go_enter Tryz.func75, Tryz.ntmps75
      go_wp2_with fail
      go_ret
      exact ⟨congrArg (fun b : Bool => Ending.returned (Value.bool b)) HE.out, rfl⟩
  · have zl33 : ¬ (33 : Int) ≤ (m : Int) := by omega
    have HE : Hid (false = R) := Lib.hid ((Bool.eq_false_iff.2 (fun h0 => (fun h => (fun h => (fun h => by omega) h.1) h.1) (HW.out.1 h0))).symm)
    clear HW hl33
    go_enter Tryz.func75, Tryz.ntmps75
    go_wp2_with fail
    go_ret
    exact ⟨congrArg (fun b : Bool => Ending.returned (Value.bool b)) HE.out, rfl⟩
set_option maxRecDepth 100000 in
set_option maxHeartbeats 4000000 in
theorem nmC_read1_any (x : UInt8) (w : World) : Calls Tryz.prog 55 #[.int .u8 (x.toNat : Nat)] w fun e w' => e = .returned (.bool (nmC x)) ∧ w' = w := by
  have hx : x.toNat < 256 := x.toNat_lt
  obtain ⟨R, hR⟩ : ∃ R, R = nmC x := ⟨_, rfl⟩
  rw [← hR]
  have hw : R = true ↔ (smC x = true) ∨ (upC x = true) := by
    rw [hR]; unfold nmC; simp only [Bool.or_eq_true]
  have HW := Lib.hid hw
  have H0csmC : Hid (∀ u, Calls Tryz.prog 43 #[.int .u8 (x.toNat : Nat)] u fun e w' => e = .returned (.bool (smC x)) ∧ w' = u) := Lib.hid fun u => smC_small_any x u
  have H0cupC : Hid (∀ u, Calls Tryz.prog 44 #[.int .u8 (x.toNat : Nat)] u fun e w' => e = .returned (.bool (upC x)) ∧ w' = u) := Lib.hid fun u => upC_upper_any x u
  clear hR hw
  generalize x.toNat = m at *
  cases hcsmC : smC x with
  | true =>
    have HcsmC : Hid (∀ u, Calls Tryz.prog 43 #[.int .u8 (m : Nat)] u fun e w' => e = .returned (.bool true) ∧ w' = u) := Lib.hid fun u => by have := H0csmC.out u; rw [hcsmC] at this; exact this
    have HE : Hid (true = R) := Lib.hid ((HW.out.2 (Or.inl (hcsmC))).symm)
    clear HW hcsmC H0csmC H0cupC
    go_enter Tryz.func55, Tryz.ntmps55
    go_wp2_with (first | (go_at_call 43; refine (HcsmC.out _).mono ?_; rintro e w0 ⟨rfl, rfl⟩))
    go_ret
    exact ⟨congrArg (fun b : Bool => Ending.returned (Value.bool b)) HE.out, rfl⟩
  | false =>
    have HcsmC : Hid (∀ u, Calls Tryz.prog 43 #[.int .u8 (m : Nat)] u fun e w' => e = .returned (.bool false) ∧ w' = u) := Lib.hid fun u => by have := H0csmC.out u; rw [hcsmC] at this; exact this
    cases hcupC : upC x with
    | true =>
      have HcupC : Hid (∀ u, Calls Tryz.prog 44 #[.int .u8 (m : Nat)] u fun e w' => e = .returned (.bool true) ∧ w' = u) := Lib.hid fun u => by have := H0cupC.out u; rw [hcupC] at this; exact this
      have HE : Hid (true = R) := Lib.hid ((HW.out.2 (Or.inr (hcupC))).symm)
      clear HW hcsmC hcupC H0csmC H0cupC
      go_enter Tryz.func55, Tryz.ntmps55
      go_wp2_with (first | (go_at_call 43; refine (HcsmC.out _).mono ?_; rintro e w0 ⟨rfl, rfl⟩) | (go_at_call 44; refine (HcupC.out _).mono ?_; rintro e w1 ⟨rfl, rfl⟩))
      go_ret
      exact ⟨congrArg (fun b : Bool => Ending.returned (Value.bool b)) HE.out, rfl⟩
    | false =>
      have HcupC : Hid (∀ u, Calls Tryz.prog 44 #[.int .u8 (m : Nat)] u fun e w' => e = .returned (.bool false) ∧ w' = u) := Lib.hid fun u => by have := H0cupC.out u; rw [hcupC] at this; exact this
      have HE : Hid (false = R) := Lib.hid ((Bool.eq_false_iff.2 (fun h0 => (fun h => h.elim (fun h => Bool.false_ne_true (hcsmC.symm.trans h)) (fun h => Bool.false_ne_true (hcupC.symm.trans h))) (HW.out.1 h0))).symm)
      clear HW hcsmC hcupC H0csmC H0cupC
      go_enter Tryz.func55, Tryz.ntmps55
      go_wp2_with (first | (go_at_call 43; refine (HcsmC.out _).mono ?_; rintro e w0 ⟨rfl, rfl⟩) | (go_at_call 44; refine (HcupC.out _).mono ?_; rintro e w1 ⟨rfl, rfl⟩))
      go_ret
      exact ⟨congrArg (fun b : Bool => Ending.returned (Value.bool b)) HE.out, rfl⟩
set_option maxRecDepth 100000 in
set_option maxHeartbeats 4000000 in
theorem noC_Answer1_any (x : UInt8) (w : World) : Calls Tryz.prog 42 #[.int .u8 (x.toNat : Nat)] w fun e w' => e = .returned (.bool (noC x)) ∧ w' = w := by
  have hx : x.toNat < 256 := x.toNat_lt
  obtain ⟨R, hR⟩ : ∃ R, R = noC x := ⟨_, rfl⟩
  rw [← hR]
  have hw : R = true ↔ ((smC x = true) ∨ (upC x = true)) ∨ (x.toNat = 95) := by
    rw [hR]; unfold noC; simp only [Bool.or_eq_true, decide_eq_true_eq]
  have HW := Lib.hid hw
  have H0csmC : Hid (∀ u, Calls Tryz.prog 43 #[.int .u8 (x.toNat : Nat)] u fun e w' => e = .returned (.bool (smC x)) ∧ w' = u) := Lib.hid fun u => smC_small_any x u
  have H0cupC : Hid (∀ u, Calls Tryz.prog 44 #[.int .u8 (x.toNat : Nat)] u fun e w' => e = .returned (.bool (upC x)) ∧ w' = u) := Lib.hid fun u => upC_upper_any x u
  clear hR hw
  generalize x.toNat = m at *
  cases hcsmC : smC x with
  | true =>
    have HcsmC : Hid (∀ u, Calls Tryz.prog 43 #[.int .u8 (m : Nat)] u fun e w' => e = .returned (.bool true) ∧ w' = u) := Lib.hid fun u => by have := H0csmC.out u; rw [hcsmC] at this; exact this
    have HE : Hid (true = R) := Lib.hid ((HW.out.2 (Or.inl (Or.inl (hcsmC)))).symm)
    clear HW hcsmC H0csmC H0cupC
    go_enter Tryz.func42, Tryz.ntmps42
    go_wp2_with (first | (go_at_call 43; refine (HcsmC.out _).mono ?_; rintro e w0 ⟨rfl, rfl⟩))
    go_ret
    exact ⟨congrArg (fun b : Bool => Ending.returned (Value.bool b)) HE.out, rfl⟩
  | false =>
    have HcsmC : Hid (∀ u, Calls Tryz.prog 43 #[.int .u8 (m : Nat)] u fun e w' => e = .returned (.bool false) ∧ w' = u) := Lib.hid fun u => by have := H0csmC.out u; rw [hcsmC] at this; exact this
    cases hcupC : upC x with
    | true =>
      have HcupC : Hid (∀ u, Calls Tryz.prog 44 #[.int .u8 (m : Nat)] u fun e w' => e = .returned (.bool true) ∧ w' = u) := Lib.hid fun u => by have := H0cupC.out u; rw [hcupC] at this; exact this
      have HE : Hid (true = R) := Lib.hid ((HW.out.2 (Or.inl (Or.inr (hcupC)))).symm)
      clear HW hcsmC hcupC H0csmC H0cupC
      go_enter Tryz.func42, Tryz.ntmps42
      go_wp2_with (first | (go_at_call 43; refine (HcsmC.out _).mono ?_; rintro e w0 ⟨rfl, rfl⟩) | (go_at_call 44; refine (HcupC.out _).mono ?_; rintro e w1 ⟨rfl, rfl⟩))
      go_ret
      exact ⟨congrArg (fun b : Bool => Ending.returned (Value.bool b)) HE.out, rfl⟩
    | false =>
      have HcupC : Hid (∀ u, Calls Tryz.prog 44 #[.int .u8 (m : Nat)] u fun e w' => e = .returned (.bool false) ∧ w' = u) := Lib.hid fun u => by have := H0cupC.out u; rw [hcupC] at this; exact this
      by_cases he95 : m = 95
      · have ze95 : ((m : Int) == 95) = true := by rw [he95]; rfl
        have HE : Hid (true = R) := Lib.hid ((HW.out.2 (Or.inr (by omega))).symm)
        clear HW hcsmC hcupC he95 H0csmC H0cupC
        go_enter Tryz.func42, Tryz.ntmps42
        go_wp2_with (first | (go_at_call 43; refine (HcsmC.out _).mono ?_; rintro e w0 ⟨rfl, rfl⟩) | (go_at_call 44; refine (HcupC.out _).mono ?_; rintro e w1 ⟨rfl, rfl⟩))
        go_ret
        exact ⟨congrArg (fun b : Bool => Ending.returned (Value.bool b)) HE.out, rfl⟩
      · have ze95 : ((m : Int) == 95) = false := by simp; omega
        have HE : Hid (false = R) := Lib.hid ((Bool.eq_false_iff.2 (fun h0 => (fun h => h.elim (fun h => h.elim (fun h => Bool.false_ne_true (hcsmC.symm.trans h)) (fun h => Bool.false_ne_true (hcupC.symm.trans h))) (fun h => by omega)) (HW.out.1 h0))).symm)
        clear HW hcsmC hcupC he95 H0csmC H0cupC
        go_enter Tryz.func42, Tryz.ntmps42
        go_wp2_with (first | (go_at_call 43; refine (HcsmC.out _).mono ?_; rintro e w0 ⟨rfl, rfl⟩) | (go_at_call 44; refine (HcupC.out _).mono ?_; rintro e w1 ⟨rfl, rfl⟩))
        go_ret
        exact ⟨congrArg (fun b : Bool => Ending.returned (Value.bool b)) HE.out, rfl⟩
end Go.Proofs.YtipjkjcmceeaeaaGreatDoor
