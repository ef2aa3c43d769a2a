/- limbs.left and read: the walks. -/
import Derived.Test.YtbmhiejggkdnkaaGreatDoorDiv
namespace Go.Proofs.YtbmhiejggkdnkaaGreatDoor
open Go.RowKit

theorem div_any (ao bo : Option Addr) (na c n d a b : Nat) (w : World) (ha : Num w ao na c a) (hb : Num w bo n d b) (hb0 : 0 < b) (hna : na ≤ 10000000) :
    Calls Tryz.prog 39 #[.slice ao na c, .slice bo n d] w (RetDiv w (a / b) (a % b)) := by
  by_cases hab : a < b
  · have h := div_lt ao bo na c n d a b w ha hb hab
    rwa [Nat.div_eq_of_lt hab, Nat.mod_eq_of_lt hab]
  · exact div_ge ao bo na c n d a b w ha hb hb0 (by omega) hna

theorem left_any (ao bo : Option Addr) (na c n d a b : Nat) (w : World) (ha : Num w ao na c a) (hb : Num w bo n d b) (hb0 : 0 < b) (hna : na ≤ 10000000) :
    Calls Tryz.prog 47 #[.slice ao na c, .slice bo n d] w (RetNum w (a % b)) := by
  go_enter Tryz.func47, Tryz.ntmps47
  go_wp2_with (go_at_call 39; refine (div_any ao bo na c n d a b _ ha hb hb0 hna).mono ?_; rintro e w' ⟨qo, qn, qc, ro, rn, rc, rfl, hq, hr, hbel⟩)
  go_ret
  exact ⟨_, _, _, rfl, hr, hbel⟩

/-- The number that bytes say, the highest first. -/
def bv (l : List UInt8) : Nat := l.foldl (fun a c => a * 256 + c.toNat) 0

theorem bv_acc (l : List UInt8) : ∀ a : Nat, l.foldl (fun a c => a * 256 + c.toNat) a = a * 256 ^ l.length + bv l := by
  induction l with
  | nil => intro a; simp [bv]
  | cons c l ih =>
    intro a
    show l.foldl _ (a * 256 + c.toNat) = _
    have h : bv (c :: l) = l.foldl (fun a c => a * 256 + c.toNat) (0 * 256 + c.toNat) := rfl
    rw [ih, h, ih, List.length_cons, Nat.pow_succ, Nat.add_mul, Nat.zero_mul, Nat.zero_add, Nat.mul_assoc, Nat.mul_comm 256]
    omega
theorem bv_cons (c : UInt8) (l : List UInt8) : bv (c :: l) = c.toNat * 256 ^ l.length + bv l := by
  show l.foldl (fun a c => a * 256 + c.toNat) (0 * 256 + c.toNat) = _
  rw [bv_acc]; simp
theorem bv_nil : bv [] = 0 := rfl
theorem bv_append (l m : List UInt8) : bv (l ++ m) = bv l * 256 ^ m.length + bv m := by
  unfold bv; rw [List.foldl_append, bv_acc]; rfl
theorem bv_lt (l : List UInt8) : bv l < 256 ^ l.length := by
  induction l with
  | nil => simp [bv_nil]
  | cons c l ih =>
    rw [bv_cons, List.length_cons, Nat.pow_succ]
    have h1 : c.toNat < 256 := c.toNat_lt
    have h2 : c.toNat * 256 ^ l.length + 256 ^ l.length ≤ 256 ^ l.length * 256 := by
      rw [← Nat.succ_mul, Nat.mul_comm]; exact Nat.mul_le_mul_left _ h1
    omega

/-- The number of a string's last i bytes. -/
def tailv (s : ByteArray) (i : Nat) : Nat := bv (s.data.toList.drop (s.size - i))
theorem tailv_zero (s : ByteArray) : tailv s 0 = 0 := by
  unfold tailv; rw [List.drop_eq_nil_of_le (by simp), bv_nil]
theorem tailv_lt (s : ByteArray) (i : Nat) (h : i ≤ s.size) : tailv s i < 256 ^ i := by
  have := bv_lt (s.data.toList.drop (s.size - i))
  rw [List.length_drop] at this
  have e : s.data.toList.length - (s.size - i) = i := by
    have : s.data.toList.length = s.size := by simp
    omega
  rwa [e] at this
theorem tailv_succ (s : ByteArray) (i : Nat) (h : i < s.size) : tailv s (i + 1) = tailv s i + (s[s.size - 1 - i]'(by omega)).toNat * 256 ^ i := by
  unfold tailv
  have hl : s.data.toList.length = s.size := by simp
  rw [List.drop_eq_getElem_cons (i := s.size - (i + 1)) (by omega), bv_cons]
  have e1 : s.size - (i + 1) + 1 = s.size - i := by omega
  have e2 : (s.data.toList.drop (s.size - i)).length = i := by rw [List.length_drop]; omega
  rw [e1, e2, Nat.add_comm]
  have e3 : s.data.toList[s.size - (i + 1)]'(by omega) = s[s.size - 1 - i]'(by omega) := by
    show s.data.toList[s.size - (i + 1)]'(by omega) = s.data[s.size - 1 - i]'(by have : s.data.size = s.size := rfl; omega)
    rw [Array.getElem_toList]
    congr 1
    omega
  rw [e3]
theorem tailv_all (s : ByteArray) : tailv s s.size = bv s.data.toList := by unfold tailv; simp

/-- One round of reading. -/
theorem read_step {T c i d : Nat} (hT : T < 256 ^ i) (hc : c < 256) (hd : d = Dg.dg LB T (i / 4)) :
    (d ||| c * 2 ^ (8 * (i % 4))) = Dg.dg LB (T + c * 256 ^ i) (i / 4) ∧ c * 2 ^ (8 * (i % 4)) < 4294967296 ∧ ∀ j, j ≠ i / 4 → Dg.dg LB T j = Dg.dg LB (T + c * 256 ^ i) j := by
  have hLB : LB = 256 ^ 4 := rfl
  have e2 : 2 ^ (8 * (i % 4)) = 256 ^ (i % 4) := by rw [show (256 : Nat) = 2 ^ 8 from rfl, ← Nat.pow_mul]
  have e1 : 256 ^ i = LB ^ (i / 4) * 256 ^ (i % 4) := by rw [hLB, ← Nat.pow_mul, ← Nat.pow_add, Nat.div_add_mod]
  have hp : 0 < LB ^ (i / 4) := Nat.pow_pos LBpos
  have hr : i % 4 < 4 := Nat.mod_lt _ (by omega)
  have hdl : T / LB ^ (i / 4) < 256 ^ (i % 4) := by rw [Nat.div_lt_iff_lt_mul hp, Nat.mul_comm, ← e1]; exact hT
  have hmx : 256 ^ (i % 4) ≤ 256 ^ 3 := Nat.pow_le_pow_right (by omega) (by omega)
  have hcl : c * 256 ^ (i % 4) ≤ 255 * 256 ^ (i % 4) := Nat.mul_le_mul_right _ (by omega)
  have hB3 : 256 ^ (i % 4) + 255 * 256 ^ (i % 4) ≤ LB := by rw [LB_eq]; omega
  have hd' : d = T / LB ^ (i / 4) := by rw [hd]; unfold Dg.dg; rw [Nat.mod_eq_of_lt (by omega)]
  have hX : T + c * 256 ^ i = T + LB ^ (i / 4) * (c * 256 ^ (i % 4)) := by rw [e1, Nat.mul_left_comm]
  refine ⟨?_, by rw [e2]; omega, fun j hj => ?_⟩
  · have hj := nat_join (8 * (i % 4)) (c * 256 ^ (i % 4)) d (by rw [e2]; simp) (by rw [e2, hd']; exact hdl)
    have e5 : (T + LB ^ (i / 4) * (c * 256 ^ (i % 4))) / LB ^ (i / 4) = d + c * 256 ^ (i % 4) := by
      rw [Nat.add_mul_div_left _ _ hp, ← hd']
    rw [e2, Nat.or_comm, hj, hX]
    unfold Dg.dg
    rw [e5, Nat.mod_eq_of_lt (a := d + c * 256 ^ (i % 4)) (by rw [hd']; omega), Nat.add_comm]
  · rcases Nat.lt_or_gt_of_ne hj with h | h
    · rw [hX]
      unfold Dg.dg
      obtain ⟨t, ht⟩ : ∃ t, i / 4 = j + 1 + t := ⟨i / 4 - (j + 1), by omega⟩
      have e4 : LB ^ (i / 4) * (c * 256 ^ (i % 4)) = LB ^ j * (LB * (LB ^ t * (c * 256 ^ (i % 4)))) := by
        rw [ht, Nat.pow_add, Nat.pow_succ]; simp only [Nat.mul_assoc]
      rw [e4, Nat.add_mul_div_left _ _ (Nat.pow_pos LBpos), Nat.add_mul_mod_self_left]
    · have h1 : T + c * 256 ^ i < LB ^ (i / 4 + 1) := by
        rw [hX]
        have h2 : T < LB ^ (i / 4) * 256 ^ (i % 4) := by rw [← e1]; exact hT
        have h3 : LB ^ (i / 4) * 256 ^ (i % 4) + LB ^ (i / 4) * (c * 256 ^ (i % 4)) ≤ LB ^ (i / 4) * LB := by
          rw [← Nat.mul_add]; exact Nat.mul_le_mul_left _ (by rw [LB_eq]; omega)
        rw [Nat.pow_succ]; omega
      rw [Dg.dg_of_lt_le LBpos h1 (by omega), Dg.dg_of_lt_le LBpos (i := i / 4 + 1) (by omega) (by omega)]

/-- As RetNum; the number begins at a block's head. -/
def RetNumZ (w : World) (v : Nat) (e : Ending) (w' : World) : Prop :=
  ∃ ro k cap, e = .returned (.slice ro k cap) ∧ Num w' ro k cap v ∧ Below w.heap.size w w' ∧ off ro = 0

set_option maxRecDepth 100000 in
set_option maxHeartbeats 800000 in
theorem read_any (s : ByteArray) (w : World) (hs : s.size ≤ 10000000) :
    Calls Tryz.prog 46 #[.string s] w (RetNumZ w (bv s.data.toList)) := by
  go_enter Tryz.func46, Tryz.ntmps46
  go_wp2_with (refine wpList_make_row _ rfl (.tmp 9) (.tmp 9) _ rfl 74 .u32 4 Tryz.underlying52 info32 .i64 .i64 _ _ ((s.size + 3) / 4) rfl rfl (by omega) (by omega) (by omega) (by omega) ?_; intro g w1 hg hown1 hb1)
  have hown2 : Own w1 .u32 74 g ((s.size + 3) / 4) (Dg.dg LB (tailv s 0)) := hown1.congr fun j _ => by rw [tailv_zero, Dg.dg_zero]
  clear hown1
  go_loopw [13] (fun i wr => ∃ k : Nat, k ≤ s.size ∧ i = .int .i64 k ∧ Own wr .u32 74 g ((s.size + 3) / 4) (Dg.dg LB (tailv s k)) ∧ Below w.heap.size w wr) (fun i _ => s.size - (intOf i).toNat)
  case atStart => exact ⟨0, Nat.zero_le _, rfl, hown2, hb1⟩
  case round =>
    obtain ⟨i, hi, rfl, hown, hbel⟩ := hrel
    clear hown2
    by_cases hin : i < s.size
    · have hco : wr.cell? ⟨g, i / 4, none⟩ = some (.int .u32 (Dg.dg LB (tailv s i) (i / 4) : Nat)) := hown.cell (i / 4) (by omega)
      obtain ⟨d, hd⟩ : ∃ d, d = Dg.dg LB (tailv s i) (i / 4) := ⟨_, rfl⟩
      rw [← hd] at hco
      have hdl : d < 4294967296 := by rw [hd]; exact Dg.dg_lt LBpos _ _
      have HD := Lib.hid hd; clear hd
      have hf := hown.frozen (i / 4)
      have hk : s.size - 1 - i < s.size := by omega
      obtain ⟨c, hc⟩ : ∃ c, c = (s[s.size - 1 - i]'hk).toNat := ⟨_, rfl⟩
      have hcl : c < 256 := by rw [hc]; exact UInt8.toNat_lt _
      have hix : ∀ W : World, (Instr.index 9 (.string s) (.int .i64 ((s.size : Int) - 1 - (i : Int)))).run Tryz.prog W = .ok (.int .u8 (c : Nat)) W := fun W => by
        have e : ((s.size : Int) - 1 - (i : Int)).toNat = s.size - 1 - i := by omega
        have e0 : (i : Int) ≤ (s.size : Int) - 1 := by omega
        simp [Instr.index, asIntOf, run_underlying Tryz.underlying9, e, e0, hc, getElem?_pos s (s.size - 1 - i) hk]
      have HC := Lib.hid hc; clear hc
      go_wp2_with fail
      go_region
      go_wp2_with fail
      have R := read_step (tailv_lt s i hi) hcl HD.out
      have hT : tailv s (i + 1) = tailv s i + c * 256 ^ i := by rw [HC.out]; exact tailv_succ s i hin
      rw [← hT] at R
      go_roundw
      case rel =>
        have e1 : bits BinOp.or IntKind.u32 (d : Int) ((c : Int) * 2 ^ (8 * (i % 4)) % 4294967296) = ((d ||| c * 2 ^ (8 * (i % 4)) : Nat) : Int) := by
          rw [← u32_or_nat d _ hdl R.2.1]
          congr 1
          have h := R.2.1
          have e : ((c : Int) * 2 ^ (8 * (i % 4))) = ((c * 2 ^ (8 * (i % 4)) : Nat) : Int) := by simp
          rw [e]
          generalize c * 2 ^ (8 * (i % 4)) = y at *
          omega
        exact ⟨i + 1, by omega, by go_num, (own_set_int hown e1 R.1 (fun j _ hj => R.2.2 j hj)).drew, (hbel.setCell hg _).drew⟩
      case measure => simp [intOf]; omega
    · obtain rfl : i = s.size := by omega
      have hrd := hown.rd
      rw [tailv_all] at hrd
      have hlt : bv s.data.toList < LB ^ ((s.size + 3) / 4) := by
        refine Nat.lt_of_lt_of_le (bv_lt _) ?_
        have e : s.data.toList.length = s.size := by simp
        rw [e, show LB = 256 ^ 4 from rfl, ← Nat.pow_mul]
        exact Nat.pow_le_pow_right (by omega) (by omega)
      have HLT := Lib.hid hlt; clear hlt
      go_wp2_with (go_at_call 54; refine (trim_num _ _ _ _ _ hrd HLT.out).mono ?_; rintro e w' ⟨k, rfl, hnum, rfl⟩)
      go_ret
      exact ⟨_, _, _, rfl, hnum, hbel, rfl⟩
end Go.Proofs.YtbmhiejggkdnkaaGreatDoor
