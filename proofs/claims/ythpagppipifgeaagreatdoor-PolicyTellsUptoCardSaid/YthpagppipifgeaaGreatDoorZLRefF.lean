/- ostiaryref20.Name, Literal: the walks. -/
import Derived.Test.YthpagppipifgeaaGreatDoorZLA
import Derived.Test.YthpagppipifgeaaGreatDoorZLRead0
import Derived.Deep.Light
namespace Go.Proofs.YthpagppipifgeaaGreatDoor
open Go.RowKit

theorem all_step {l : List UInt8} {i : Nat} {x : UInt8} (hx : l[i]? = some x) (f : UInt8 → Bool) : (l.drop i).all f = (f x && (l.drop (i + 1)).all f) := by
  obtain ⟨hi, rfl⟩ := List.getElem?_eq_some_iff.1 hx
  rw [List.drop_eq_getElem_cons hi, List.all_cons]
theorem nmC_iff (x : UInt8) : nmC x = true ↔ ((97 ≤ x.toNat ∧ x.toNat ≤ 122) ∨ (48 ≤ x.toNat ∧ x.toNat ≤ 57) ∨ x.toNat = 95 ∨ x.toNat = 45) := by
  unfold nmC
  simp only [Bool.or_eq_true, Bool.and_eq_true, decide_eq_true_eq, beq_iff_eq]
  omega
set_option maxRecDepth 100000 in
theorem nameR_bs (l : List UInt8) (w : World) (hl : l.length ≤ SB) : Calls Tryz.prog 51 #[.string (bs l)] w fun e w' => e = .returned (.bool (nameB (bs l))) ∧ w' = w := by
  have hSB := SB_eq
  have hsz := bs_size l
  have hnm : nameB (bs l) = (decide (1 ≤ l.length) && decide (l.length ≤ 32) && l.all nmC) := by unfold nameB; rw [hsz, bs_data]
  obtain ⟨RR, hRR⟩ : ∃ RR, RR = nameB (bs l) := ⟨_, rfl⟩
  rw [← hRR]
  have HN := Lib.hid (hRR.trans hnm)
  clear hRR hnm
  go_enter Tryz.func51, Tryz.ntmps51
  go_upto_region 2 with fail
  go_loopg [3, 4] l.length (fun gg s3 s4 wr => ∃ i : Nat, i ≤ l.length ∧ gg = l.length - i ∧ s3 = .int .i64 i ∧ wr = w ∧ Aside (l.all nmC = (l.drop i).all nmC))
  case atStart => exact ⟨0, Nat.zero_le _, rfl, rfl, rfl, rfl⟩
  case round =>
    obtain ⟨i, hil, rfl, rfl, rfl, HA⟩ := hrel
    by_cases hlt : i < l.length
    · have hltz : (i : Int) < (l.length : Int) := by omega
      obtain ⟨x, hx⟩ : ∃ x, l[i]? = some x := ⟨l[i], by simp [hlt]⟩
      have hgi := bs_get l i x hx
      have has := all_step hx nmC
      rw [← HA.out] at has
      have HAS := Lib.hid has
      have hx256 : x.toNat < 256 := UInt8.toNat_lt x
      clear hx has HA
      go_upto_region 5 with fail
      go_cut [4, 35] (fun s4 s35 wx => s4 = .int .u8 x.toNat ∧ s35 = .bool (!nmC x) ∧ wx = wr)
      case first =>
        clear hgi HAS HN hsz hl hSB hlt hltz hil
        have HC := Lib.hid (nmC_iff x)
        by_cases h95 : x.toNat = 95
        · have z95 : (x.toNat : Int) = 95 := by omega
          have hv : nmC x = true := HC.out.2 (by omega)
          have HV := Lib.hid hv
          clear hv HC
          go_wp2_with fail
          all_goals
            go_meet
            refine ⟨?_, ?_, rfl⟩
            all_goals first | rfl | (rw [HV.out]; rfl) | (rw [z95]) | trace_state
        · have z95 : ¬ (x.toNat : Int) = 95 := by omega
          go_wp2_with fail
          all_goals
            go_meet
            refine ⟨rfl, ?_, rfl⟩
            refine congrArg Value.bool ?_
            rw [Bool.eq_iff_iff, Bool.not_eq_true', Bool.eq_false_iff, ne_eq, HC.out]
            simp only [Bool.and_eq_true, Bool.or_eq_true, decide_eq_true_eq, bne_iff_ne, ne_eq, Bool.false_eq_true, false_iff]
            clear HC
            omega
      case rest =>
      obtain ⟨rfl, rfl, rfl⟩ := hcut
      cases hv : nmC x with
      | true =>
        go_wp2_with fail
        go_roundg (l.length - (i + 1))
        case measure => omega
        case rel => exact ⟨i + 1, by omega, rfl, by go_num, rfl, by rw [HAS.out, hv]; rfl⟩
      | false =>
        go_wp2_with fail
        go_ret
        have := HAS.out
        rw [hv] at this
        exact ⟨by rw [HN.out, this]; simp, rfl⟩
    · have hltz : ¬ (i : Int) < (l.length : Int) := by omega
      obtain rfl : i = l.length := by omega
      have hall : l.all nmC = true := by rw [HA.out, List.drop_length]; rfl
      have HL := Lib.hid hall
      clear HA hall
      by_cases h1 : 1 ≤ l.length
      · by_cases h32 : l.length ≤ 32
        · have z1 : (1 : Int) ≤ (l.length : Int) := by omega
          have z2 : (l.length : Int) ≤ 32 := by omega
          go_wp2_with fail
          go_ret
          exact ⟨by rw [HN.out, HL.out]; simp [h1, h32], rfl⟩
        · have z1 : (1 : Int) ≤ (l.length : Int) := by omega
          have z2 : ¬ (l.length : Int) ≤ 32 := by omega
          go_wp2_with fail
          go_ret
          exact ⟨by rw [HN.out, HL.out]; simp [h1, h32], rfl⟩
      · have z1 : ¬ (1 : Int) ≤ (l.length : Int) := by omega
        go_wp2_with fail
        go_ret
        exact ⟨by rw [HN.out, HL.out]; simp [h1], rfl⟩
set_option maxRecDepth 100000 in
theorem litR_bs (l : List UInt8) (w : World) (hl : l.length ≤ SB) : Calls Tryz.prog 50 #[.string (bs l)] w fun e w' => e = .returned (.bool (litB (bs l))) ∧ w' = w := by
  have hSB := SB_eq
  have hsz := bs_size l
  have hnm : litB (bs l) = (decide (l.length ≤ 64) && l.all ltC) := by unfold litB; rw [hsz, bs_data]
  obtain ⟨RR, hRR⟩ : ∃ RR, RR = litB (bs l) := ⟨_, rfl⟩
  rw [← hRR]
  have HN := Lib.hid (hRR.trans hnm)
  clear hRR hnm
  go_enter Tryz.func50, Tryz.ntmps50
  go_upto_region 2 with fail
  go_loopg [3] l.length (fun gg s3 wr => ∃ i : Nat, i ≤ l.length ∧ gg = l.length - i ∧ s3 = .int .i64 i ∧ wr = w ∧ Aside (l.all ltC = (l.drop i).all ltC))
  case atStart => exact ⟨0, Nat.zero_le _, rfl, rfl, rfl, rfl⟩
  case round =>
    obtain ⟨i, hil, rfl, rfl, rfl, HA⟩ := hrel
    by_cases hlt : i < l.length
    · have hltz : (i : Int) < (l.length : Int) := by omega
      obtain ⟨x, hx⟩ : ∃ x, l[i]? = some x := ⟨l[i], by simp [hlt]⟩
      have hgi := bs_get l i x hx
      have has := all_step hx ltC
      rw [← HA.out] at has
      have HAS := Lib.hid has
      have hx256 : x.toNat < 256 := UInt8.toNat_lt x
      clear hx has HA
      by_cases h32 : x.toNat < 32
      · have z : (x.toNat : Int) < 32 := by omega
        have hv : ltC x = false := by unfold ltC; simp; omega
        have HV := Lib.hid hv
        clear hv
        go_wp2_with fail
        go_ret
        have := HAS.out
        rw [HV.out] at this
        exact ⟨by rw [HN.out, this]; simp, rfl⟩
      · have z : ¬ (x.toNat : Int) < 32 := by omega
        by_cases h126 : 126 < x.toNat
        · have z2 : (126 : Int) < (x.toNat : Int) := by omega
          have hv : ltC x = false := by unfold ltC; simp; omega
          have HV := Lib.hid hv
          clear hv
          go_wp2_with fail
          go_ret
          have := HAS.out
          rw [HV.out] at this
          exact ⟨by rw [HN.out, this]; simp, rfl⟩
        · have z2 : ¬ (126 : Int) < (x.toNat : Int) := by omega
          have hv : ltC x = true := by unfold ltC; simp; omega
          have HV := Lib.hid hv
          clear hv
          go_wp2_with fail
          go_roundg (l.length - (i + 1))
          case measure => omega
          case rel => exact ⟨i + 1, by omega, rfl, by go_num, rfl, by rw [HAS.out, HV.out]; rfl⟩
    · have hltz : ¬ (i : Int) < (l.length : Int) := by omega
      obtain rfl : i = l.length := by omega
      have hall : l.all ltC = true := by rw [HA.out, List.drop_length]; rfl
      have HL := Lib.hid hall
      clear HA hall
      by_cases h64 : l.length ≤ 64
      · have z2 : (l.length : Int) ≤ 64 := by omega
        go_wp2_with fail
        go_ret
        exact ⟨by rw [HN.out, HL.out]; simp [h64], rfl⟩
      · have z2 : ¬ (l.length : Int) ≤ 64 := by omega
        go_wp2_with fail
        go_ret
        exact ⟨by rw [HN.out, HL.out]; simp [h64], rfl⟩
theorem bs_of2 (s : ByteArray) : bs s.data.toList = s := by cases s; simp [bs]
theorem nameR_any (s : ByteArray) (w : World) (h : s.size ≤ SB) : Calls Tryz.prog 51 #[.string s] w fun e w' => e = .returned (.bool (nameB s)) ∧ w' = w := by
  have := nameR_bs s.data.toList w (by simpa using h)
  rw [bs_of2] at this
  exact this
theorem litR_any (s : ByteArray) (w : World) (h : s.size ≤ SB) : Calls Tryz.prog 50 #[.string s] w fun e w' => e = .returned (.bool (litB s)) ∧ w' = w := by
  have := litR_bs s.data.toList w (by simpa using h)
  rw [bs_of2] at this
  exact this
end Go.Proofs.YthpagppipifgeaaGreatDoor
