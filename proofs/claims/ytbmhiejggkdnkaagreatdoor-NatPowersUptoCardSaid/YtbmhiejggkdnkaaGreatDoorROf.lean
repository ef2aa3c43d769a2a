/- The reference's Of: the walk. -/
import Derived.Test.YtbmhiejggkdnkaaGreatDoorRBase
namespace Go.Proofs.YtbmhiejggkdnkaaGreatDoor
open Go.RowKit

/-- One round of reading. -/
theorem of_step {T c i d x : Nat} (hT : T < 256 ^ i) (hc : c < 256) (hd : d = Dg.dg DB T (i / 2)) (hx : x = if i % 2 = 1 then c * 256 else c) :
    d + x < 65536 ∧ ∀ j, Dg.dg DB (T + c * 256 ^ i) j = if j = i / 2 then d + x else Dg.dg DB T j := by
  have hDB : DB = 256 ^ 2 := rfl
  have e1 : 256 ^ i = DB ^ (i / 2) * 256 ^ (i % 2) := by rw [hDB, ← Nat.pow_mul, ← Nat.pow_add, Nat.div_add_mod]
  have hp : 0 < DB ^ (i / 2) := Nat.pow_pos DBpos
  have hdl : T / DB ^ (i / 2) < 256 ^ (i % 2) := by rw [Nat.div_lt_iff_lt_mul hp, Nat.mul_comm, ← e1]; exact hT
  have hd2 : d ≤ T / DB ^ (i / 2) := by rw [hd]; unfold Dg.dg; exact Nat.mod_le _ _
  have hcx : c * 256 ^ i = x * DB ^ (i / 2) := by
    rw [e1, hx]
    rcases Nat.mod_two_eq_zero_or_one i with h | h
    · rw [h, if_neg (by omega), Nat.pow_zero, Nat.mul_one]
    · rw [h, if_pos rfl, Nat.pow_one]; simp only [Nat.mul_comm, Nat.mul_left_comm]
  have hlt : d + x < 65536 := by
    rw [hx]
    rcases Nat.mod_two_eq_zero_or_one i with h | h
    · rw [h, Nat.pow_zero] at hdl; rw [if_neg (by omega)]; omega
    · rw [h, Nat.pow_one] at hdl; rw [if_pos h]; omega
  refine ⟨hlt, fun j => ?_⟩
  rw [hcx, dg_add_at DBpos (by rw [← hd]; exact hlt), ← hd]

set_option maxRecDepth 100000 in
set_option maxHeartbeats 800000 in
theorem of_any (s : ByteArray) (w : World) (hs : s.size ≤ 10000000) :
    Calls Tryz.prog 9 #[.string s] w (RetRN w (bv s.data.toList)) := by
  go_enter Tryz.func9, Tryz.ntmps9
  go_wp2_with (refine wpList_make_row _ rfl (.tmp 9) (.tmp 9) _ rfl 30 .u64 8 Tryz.underlying28 info64 .i64 .i64 _ _ (s.size / 2 + 1) rfl rfl (by omega) (by omega) (by omega) (by omega) ?_; intro g w1 hg hown1 hb1)
  have hown2 : Own w1 .u64 30 g (s.size / 2 + 1) (Dg.dg DB (tailv s 0)) := hown1.congr fun j _ => by rw [tailv_zero, Dg.dg_zero]
  clear hown1
  go_loopw [4] (fun i wr => ∃ k : Nat, k ≤ s.size ∧ i = .int .i64 k ∧ Own wr .u64 30 g (s.size / 2 + 1) (Dg.dg DB (tailv s k)) ∧ Below w.heap.size w wr) (fun i _ => s.size - (intOf i).toNat)
  case atStart => exact ⟨0, Nat.zero_le _, rfl, hown2, hb1⟩
  case round =>
    obtain ⟨i, hi, rfl, hown, hbel⟩ := hrel
    clear hown2
    by_cases hin : i < s.size
    · have hco : wr.cell? ⟨g, i / 2, none⟩ = some (.int .u64 (Dg.dg DB (tailv s i) (i / 2) : Nat)) := hown.cell (i / 2) (by omega)
      obtain ⟨d, hd⟩ : ∃ d, d = Dg.dg DB (tailv s i) (i / 2) := ⟨_, rfl⟩
      rw [← hd] at hco
      have hdl : d < 65536 := by rw [hd]; exact Dg.dg_lt DBpos _ _
      have HD := Lib.hid hd; clear hd
      have hf := hown.frozen (i / 2)
      have hk : s.size - 1 - i < s.size := by omega
      obtain ⟨c, hc⟩ : ∃ c, c = (s[s.size - 1 - i]'hk).toNat := ⟨_, rfl⟩
      have hcl : c < 256 := by rw [hc]; exact UInt8.toNat_lt _
      have hix : ∀ W : World, (Instr.index 9 (.string s) (.int .i64 ((s.size : Int) - 1 - (i : Int)))).run Tryz.prog W = .ok (.int .u8 (c : Nat)) W := fun W => by
        have e : ((s.size : Int) - 1 - (i : Int)).toNat = s.size - 1 - i := by omega
        have e0 : (i : Int) ≤ (s.size : Int) - 1 := by omega
        simp [Instr.index, asIntOf, run_underlying Tryz.underlying9, e, e0, hc, getElem?_pos s (s.size - 1 - i) hk]
      have HC := Lib.hid hc; clear hc
      obtain ⟨x, hx⟩ : ∃ x, x = if i % 2 = 1 then c * 256 else c := ⟨_, rfl⟩
      have R := of_step (tailv_lt s i hi) hcl HD.out hx
      have hT : tailv s (i + 1) = tailv s i + c * 256 ^ i := by rw [HC.out]; exact tailv_succ s i hin
      rw [← hT] at R
      have hdx := R.1
      have HR := Lib.hid R.2; clear R hT
      rcases Nat.mod_two_eq_zero_or_one i with h2 | h2
      · have hxc : c = x := by rw [hx, if_neg (by omega)]
        have ht : (((i : Int) % 2) == 1) = false := by rw [beq_eq_false_iff_ne]; omega
        have HXC := Lib.hid hxc
        clear h2 hx hxc
        go_wp2_with fail
        go_roundw
        case rel => exact ⟨i + 1, by omega, by go_num, own_set_int hown (s := d + c) (by simp) (by rw [HR.out, if_pos rfl, HXC.out]) (fun j _ hj => by rw [HR.out, if_neg hj]), hbel.setCell hg _⟩
        case measure => simp [intOf]; omega
      · have hxc : c * 256 = x := by rw [hx, if_pos h2]
        have ht : (((i : Int) % 2) == 1) = true := by rw [beq_iff_eq]; omega
        have HXC := Lib.hid hxc
        clear h2 hx hxc
        go_wp2_with fail
        go_roundw
        case rel => exact ⟨i + 1, by omega, by go_num, own_set_int hown (s := d + c * 256) (by simp) (by rw [HR.out, if_pos rfl, HXC.out]) (fun j _ hj => by rw [HR.out, if_neg hj]), hbel.setCell hg _⟩
        case measure => simp [intOf]; omega
    · obtain rfl : i = s.size := by omega
      have hrd := hown.rd
      rw [tailv_all] at hrd
      have hlt : bv s.data.toList < DB ^ (s.size / 2 + 1) := by
        refine Nat.lt_of_lt_of_le (bv_lt _) ?_
        have e : s.data.toList.length = s.size := by simp
        rw [e, show DB = 256 ^ 2 from rfl, ← Nat.pow_mul]
        exact Nat.pow_le_pow_right (by omega) (by omega)
      have HLT := Lib.hid hlt; clear hlt
      go_wp2_with (go_at_call 30; refine (rtrim_num _ _ _ _ _ hrd HLT.out).mono ?_; rintro e w' ⟨k, rfl, hnum, rfl⟩)
      go_ret
      exact ⟨_, _, _, rfl, hnum, hbel⟩
end Go.Proofs.YtbmhiejggkdnkaaGreatDoor
