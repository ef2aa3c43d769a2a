/- hash: next, at 32 bits: what it computes. -/
import Derived.Test.YtjkjlbchbbpmaaaGreatDoorZH0
namespace Go.Proofs.YtjkjlbchbbpmaaaGreatDoor
open Go.RowKit

/-- The words so far. -/
def wInner (b : Nat → Nat) (i n : Nat) : Nat → Nat := fun j => if j < i then wordN b j 4 else if j = i then wordN b i n else 0
theorem wInner_0 (b : Nat → Nat) (i : Nat) : (wc 64 fun j => if j < i then wordN b j 4 else 0) = wc 64 (wInner b i 0) := wc_congr fun j _ => by
  unfold wInner
  by_cases h : j < i
  · rw [if_pos h, if_pos h]
  · rw [if_neg h, if_neg h]
    by_cases e : j = i
    · rw [if_pos e]; rfl
    · rw [if_neg e]
theorem wInner_4 (b : Nat → Nat) (i : Nat) : wc 64 (wInner b i 4) = (wc 64 fun j => if j < i + 1 then wordN b j 4 else 0) := wc_congr fun j _ => by
  unfold wInner
  by_cases h : j < i
  · rw [if_pos h, if_pos (by omega)]
  · rw [if_neg h]
    by_cases e : j = i
    · rw [if_pos e, if_pos (by omega), e]
    · rw [if_neg e, if_neg (by omega)]
theorem wInner_set (b : Nat → Nat) (i n x : Nat) (hx : x = wordN b i (n + 1)) : (wc 64 (wInner b i n)).setIfInBounds i (.int .u32 ((x : Nat) : Int)) = wc 64 (wInner b i (n + 1)) := by
  rw [wc_set]
  refine wc_congr fun j _ => ?_
  unfold wInner
  by_cases e : j = i
  · rw [if_pos e, e, if_neg (by omega), if_pos rfl, hx]
  · rw [if_neg e, if_neg e, if_neg e]

theorem wstep_set (f : Nat → Nat) {i a16 a15 a7 a2 : Nat} (h16 : a16 + 16 = i) (h15 : a15 + 15 = i) (h7 : a7 + 7 = i) (h2 : a2 + 2 = i) :
    (wc 64 f).setIfInBounds i (.int .u32 (((((f a16 + mix32 (f a15) 7 18 3 true) % 4294967296 + f a7) % 4294967296 + mix32 (f a2) 17 19 10 true) % 4294967296 : Nat) : Int)) = wc 64 (wstep f i) := by
  rw [wc_set]
  refine wc_congr fun j _ => ?_
  unfold wstep
  by_cases e : j = i
  · rw [if_pos e, if_pos e, show i - 16 = a16 by omega, show i - 15 = a15 by omega, show i - 7 = a7 by omega, show i - 2 = a2 by omega]
  · rw [if_neg e, if_neg e]
/-- All moved on by one. -/
def shl1 (v : Nat → Nat) : Nat → Nat := fun j => if j = 0 then v 0 else v (j - 1)
theorem row_step (v : Nat → Nat) (k w T U : Nat) (hT : T = rT v k w) (hU : U = rU v) :
    ((wc 8 (shl1 v)).setIfInBounds 4 (.int .u32 (((shl1 v 4 + T) % 4294967296 : Nat) : Int))).setIfInBounds 0 (.int .u32 (((T + U) % 4294967296 : Nat) : Int)) = wc 8 (rstep v k w) := by
  subst hT hU
  rw [wc_set, wc_set]
  refine wc_congr fun j hj => ?_
  rcases (by omega : j = 0 ∨ j = 1 ∨ j = 2 ∨ j = 3 ∨ j = 4 ∨ j = 5 ∨ j = 6 ∨ j = 7) with rfl | rfl | rfl | rfl | rfl | rfl | rfl | rfl <;> rfl
theorem copy_row (v : Nat → Nat) (cs : List Value) (hcs : cs = (List.range 7).map fun j => Value.int .u32 ((v j : Nat) : Int)) : ((wc 8 v).toList.take 1 ++ (cs ++ (wc 8 v).toList.drop (1 + cs.length))).toArray = wc 8 (shl1 v) := by
  subst hcs; rfl
theorem add_row (v s : Nat → Nat) (i : Nat) : (wc 8 fun j => if j < i then (v j + s j) % 4294967296 else v j).setIfInBounds i (.int .u32 (((v i + s i) % 4294967296 : Nat) : Int)) = wc 8 fun j => if j < i + 1 then (v j + s j) % 4294967296 else v j := by
  rw [wc_set]
  refine wc_congr fun j _ => ?_
  by_cases e : j = i
  · rw [if_pos e, e, if_pos (by omega)]
  · rw [if_neg e]
    by_cases h : j < i
    · rw [if_pos h, if_pos (by omega)]
    · rw [if_neg h, if_neg (by omega)]

set_option maxRecDepth 100000 in
set_option maxHeartbeats 3200000 in
theorem next_any (s b : Nat → Nat) (gb ob cb gk : Nat) (w : World) (hs : ∀ j, s j < 4294967296) (hb : ∀ j, b j < 256) (hbc : ∀ j, j < 64 → w.cell? ⟨gb, ob + j, none⟩ = some (.int .u8 ((b j : Nat) : Int)))
    (hgb : gb < w.heap.size) (hcb : 64 ≤ cb) (hkc : ∀ j, j < 64 → w.cell? ⟨gk, j, none⟩ = some (.int .u32 ((kF j : Nat) : Int))) (hgk : gk < w.heap.size) :
    Calls Tryz.prog 124 #[.agg (wc 8 s), .slice (some ⟨gb, ob, none⟩) 64 cb, .slice (some ⟨gk, 0, none⟩) 64 64, .agg kc32] w fun e w' => e = .returned (.agg (wc 8 (next32 s b))) ∧ Below w.heap.size w w' := by
  have HS := Lib.hid hs; have HB := Lib.hid hb; have HBC := Lib.hid hbc; have HKC := Lib.hid hkc
  clear hs hb hbc hkc
  have hR0 := Rws.start w
  go_enter Tryz.func124, Tryz.ntmps124
  go_upto_region 2 with (first
    | (refine wpList_box_rws (x := .tmp 0) rfl _ (by rfl) (by assumption) _ rfl ?_; intro gs w1 hR)
    | (refine wpList_box_rws (x := .tmp 3) rfl _ (by rfl) (by assumption) _ rfl ?_; intro gq w1 hR)
    | (refine wpList_alloc_rws rfl _ (by rfl) (by assumption) _ zero_w8 ?_; intro gr w1 hR)
    | (refine wR_make rfl _ _ _ (by rfl) 60 Tryz.underlying71 (by kernel_rfl) (by assumption) _ _ _ _ 64 rfl rfl (by rfl) (by rfl) (by omega) ?_; intro gw w1 hR))
  have hR3 : Rws w.heap.size w w1 [(gw, wc 64 (fun j => if j < 0 then wordN b j 4 else 0), 60), (gr, wc 8 (fun _ => 0), 165), (gq, kc32, 163), (gs, wc 8 s, 165)] := by
    have e : (wc 64 fun _ => 0) = wc 64 (fun j => if j < 0 then wordN b j 4 else 0) := wc_congr fun j _ => (if_neg (Nat.not_lt_zero j)).symm
    rw [← e]; exact hR
  clear hR
  go_wp2_with fail
  go_loopw [22] (fun iv wr => ∃ i : Nat, i ≤ 16 ∧ iv = .int .i64 i ∧ Rws w.heap.size w wr [(gw, wc 64 (fun j => if j < i then wordN b j 4 else 0), 60), (gr, wc 8 (fun _ => 0), 165), (gq, kc32, 163), (gs, wc 8 s, 165)]) (fun iv _ => 16 - (intOf iv).toNat)
  case atStart => exact ⟨0, Nat.zero_le _, rfl, hR3⟩
  case round =>
    clear hR3
    obtain ⟨i, hi, rfl, hR⟩ := hrel
    by_cases hin : i < 16
    · have hdec : decide ((i : Int) < 16) = true := by rw [decide_eq_true_eq]; omega
      obtain ⟨wo, rfl⟩ : ∃ wo : World, wo = wr := ⟨_, rfl⟩
      obtain ⟨lo, hlo⟩ : ∃ lo, lo = 4 * i := ⟨_, rfl⟩
      obtain ⟨up, hup⟩ : ∃ up, up = 4 * (i + 1) := ⟨_, rfl⟩
      obtain ⟨c4, hc4⟩ : ∃ c4, c4 = cb - lo := ⟨_, rfl⟩
      have e4 : (4 : Int) * (i : Int) = (lo : Int) := by omega
      have e5 : (4 : Int) * ((i : Int) + 1) = (up : Int) := by omega
      have hsl : ∀ w : World, (Instr.sliceAt 46 (.slice (some ⟨gb, ob, none⟩) 64 cb) (some (.int .i64 (lo : Int))) (some (.int .i64 (up : Int))) none).run Tryz.prog w = .ok (.slice (some ⟨gb, ob + lo, none⟩) 4 c4) w := fun w => by
        have h := run_cutS (P := Tryz.prog) (t := 46) (g := gb) (k := ob) (len := 64) (cap := cb) (l := lo) (h := up) Tryz.underlying46 (by kernel_rfl) (by omega) (by omega) (by omega) w
        rw [show up - lo = 4 by omega, ← hc4] at h
        exact h
      have HSL := Lib.hid hsl
      have HLO := Lib.hid hlo
      clear hsl hlo hup hc4
      go_wp2_with (first
        | (refine wR_loadc rfl (by rfl) (by assumption) rfl (by repeat (first | exact List.Mem.head _ | refine List.Mem.tail _ ?_)) (v := .int .i64 32) rfl isAgg_int ?_)
        | (refine wR_cut rfl (by rfl) rfl rfl rfl (HSL.out _) ?_))
      have hR2 : Rws w.heap.size w wo [(gw, wc 64 (wInner b i 0), 60), (gr, wc 8 (fun _ => 0), 165), (gq, kc32, 163), (gs, wc 8 s, 165)] := by rw [← wInner_0]; exact hR
      clear hR
      go_loopw [39] (fun nv wr => ∃ n : Nat, n ≤ 4 ∧ nv = .int .i64 n ∧ Rws w.heap.size w wr [(gw, wc 64 (wInner b i n), 60), (gr, wc 8 (fun _ => 0), 165), (gq, kc32, 163), (gs, wc 8 s, 165)]) (fun nv _ => 4 - (intOf nv).toNat)
      case atStart => exact ⟨0, Nat.zero_le _, rfl, hR2⟩
      case round =>
        clear hR2
        obtain ⟨n, hn, rfl, hR⟩ := hrel
        by_cases hn4 : n < 4
        · have hdec2 : decide ((n : Int) < 4) = true := by rw [decide_eq_true_eq]; omega
          obtain ⟨c, hc⟩ : ∃ c, c = b (4 * i + n) := ⟨_, rfl⟩
          have hcl : c < 256 := by rw [hc]; exact HB.out _
          have hcell : wr.cell? ⟨gb, ob + lo + n, none⟩ = some (.int .u8 (c : Int)) := by
            have h := HBC.out (4 * i + n) (by omega)
            rw [← hc, ← HLO.out, ← Nat.add_assoc] at h
            exact (hR.below.cell (p := ⟨gb, ob + lo + n, none⟩) hgb).trans h
          obtain ⟨x, hx⟩ : ∃ x, x = wordN b i n := ⟨_, rfl⟩
          have hxl : x < 16777216 := by
            rw [hx]
            exact Nat.lt_of_lt_of_le (wordN_lt b HB.out i n) (Nat.le_trans (Nat.pow_le_pow_right (by omega) (show n ≤ 3 by omega)) (by decide))
          have hco : wr.cell? ⟨gw, i, none⟩ = some (.int .u32 (x : Int)) := by
            refine (hR.cellAt (List.Mem.head _) i (wc_get _ (by omega))).trans ?_
            rw [hx]; unfold wInner; rw [if_neg (by omega), if_pos rfl]
          have hfr : wr.frozen? ⟨gw, i, none⟩ = false := hR.thaw (List.Mem.head _) i
          have hnext : wordN b i (n + 1) = x * 256 + c := by rw [hx, hc]; rfl
          have HNX := Lib.hid hnext
          clear hnext hx hc
          go_wp2_with fail
          have hv : bits .or .u32 ((x : Int) * 256) (c : Int) = ((x * 256 + c : Nat) : Int) := by
            have h := u32_or_nat (x * 256) c (by omega) (by omega)
            have e : x * 256 ||| c = x * 256 + c := by
              have h2 := Nat.two_pow_add_eq_or_of_lt (i := 8) (b := c) hcl x
              rw [Nat.mul_comm x 256]
              exact h2.symm
            rw [e] at h
            rw [← h]
            simp
          go_roundw
          case rel => exact ⟨n + 1, by omega, by go_num, hR.setp Pick.here i _ (by rw [hv]; exact wInner_set b i n _ HNX.out.symm)⟩
          case measure => simp [intOf]; omega
        · obtain rfl : n = 4 := by omega
          rw [wInner_4] at hR
          go_wp2_with fail
          go_roundw
          case rel => exact ⟨i + 1, by omega, by go_num, hR⟩
          case measure => simp [intOf]; omega
    · obtain rfl : i = 16 := by omega
      have hR2 : Rws w.heap.size w wr [(gw, wc 64 (wrun (wordsOf b) 0), 60), (gr, wc 8 (fun _ => 0), 165), (gq, kc32, 163), (gs, wc 8 s, 165)] := hR
      clear hR
      have HW : Hid (∀ n j, wrun (wordsOf b) n j < 4294967296) := wrun_lt (wordsOf_lt b HB.out)
      rw [show ((16 : Nat) : Int) = 16 from rfl]
      go_wp2_with fail
      obtain ⟨wo, rfl⟩ : ∃ wo : World, wo = wr := ⟨_, rfl⟩
      go_loopw [13] (fun iv wr => ∃ i : Nat, 16 ≤ i ∧ i ≤ 64 ∧ iv = .int .i64 i ∧ Rws w.heap.size w wr [(gw, wc 64 (wrun (wordsOf b) (i - 16)), 60), (gr, wc 8 (fun _ => 0), 165), (gq, kc32, 163), (gs, wc 8 s, 165)]) (fun iv _ => 64 - (intOf iv).toNat)
      case atStart => exact ⟨16, Nat.le_refl _, by omega, rfl, hR2⟩
      case round =>
        clear hR2
        obtain ⟨i, hi16, hi, rfl, hR⟩ := hrel
        by_cases hin : i < 64
        · have hdec2 : decide ((i : Int) < 64) = true := by rw [decide_eq_true_eq]; omega
          obtain ⟨f, hf⟩ : ∃ f, f = wrun (wordsOf b) (i - 16) := ⟨_, rfl⟩
          have hfl : ∀ j, f j < 4294967296 := fun j => by rw [hf]; exact HW.out _ _
          rw [← hf] at hR
          obtain ⟨a16, h16⟩ : ∃ a, a + 16 = i := ⟨i - 16, by omega⟩
          obtain ⟨a15, h15⟩ : ∃ a, a + 15 = i := ⟨i - 15, by omega⟩
          obtain ⟨a7, h7⟩ : ∃ a, a + 7 = i := ⟨i - 7, by omega⟩
          obtain ⟨a2, h2⟩ : ∃ a, a + 2 = i := ⟨i - 2, by omega⟩
          have HF := Lib.hid hf; have HFL := Lib.hid hfl; have H16 := Lib.hid h16; have H15 := Lib.hid h15; have H7 := Lib.hid h7; have H2 := Lib.hid h2
          clear hf hfl h16 h15 h7 h2
          go_upto_region 14 with (fail)
          refine wp_region_calm 36 (by rfl) (by kernel_rfl) (by assumption) ?_
          refine lexC_move rfl rfl ?_
          simp only [Act.put, List.setIfInBounds_toArray, List.set_cons_succ, List.set_cons_zero]
          refine lexC_move rfl rfl ?_
          simp only [Act.put, List.setIfInBounds_toArray, List.set_cons_succ, List.set_cons_zero]
          refine lexC_move rfl rfl ?_
          simp only [Act.put, List.setIfInBounds_toArray, List.set_cons_succ, List.set_cons_zero]
          refine lexC_move rfl rfl ?_
          simp only [Act.put, List.setIfInBounds_toArray, List.set_cons_succ, List.set_cons_zero]
          refine lexC_bin rfl rfl rfl (run_subi H16.out (by omega)) (fun _ => rfl) ?_
          simp only [Act.put, List.setIfInBounds_toArray, List.set_cons_succ, List.set_cons_zero]
          refine lexC_ixs (g := gw) (off := 0) (k := a16) (len := 64) (cap := 64) rfl rfl rfl Tryz.underlying71 (by kernel_rfl) (by have := H16.out; omega) ?_
          simp only [Act.put, List.setIfInBounds_toArray, List.set_cons_succ, List.set_cons_zero]
          refine lexC_word (v := .int .u32 ((f a16 : Nat) : Int)) rfl (by simp only [Nat.zero_add]; rfl) (by repeat (first | exact List.Mem.head _ | refine List.Mem.tail _ ?_)) (wc_get _ (by have := H16.out; omega)) isAgg_w ?_
          simp only [Act.put, List.setIfInBounds_toArray, List.set_cons_succ, List.set_cons_zero]
          refine lexC_move rfl rfl ?_
          simp only [Act.put, List.setIfInBounds_toArray, List.set_cons_succ, List.set_cons_zero]
          refine lexC_move rfl rfl ?_
          simp only [Act.put, List.setIfInBounds_toArray, List.set_cons_succ, List.set_cons_zero]
          refine lexC_bin rfl rfl rfl (run_subi H15.out (by omega)) (fun _ => rfl) ?_
          simp only [Act.put, List.setIfInBounds_toArray, List.set_cons_succ, List.set_cons_zero]
          refine lexC_ixs (g := gw) (off := 0) (k := a15) (len := 64) (cap := 64) rfl rfl rfl Tryz.underlying71 (by kernel_rfl) (by have := H15.out; omega) ?_
          simp only [Act.put, List.setIfInBounds_toArray, List.set_cons_succ, List.set_cons_zero]
          refine lexC_word (v := .int .u32 ((f a15 : Nat) : Int)) rfl (by simp only [Nat.zero_add]; rfl) (by repeat (first | exact List.Mem.head _ | refine List.Mem.tail _ ?_)) (wc_get _ (by have := H15.out; omega)) isAgg_w ?_
          simp only [Act.put, List.setIfInBounds_toArray, List.set_cons_succ, List.set_cons_zero]
          refine lexC_field rfl rfl Tryz.underlying163 rfl ⟨2, by kernel_rfl⟩ rfl ?_
          simp only [Act.put, List.setIfInBounds_toArray, List.set_cons_succ, List.set_cons_zero]
          refine lexC_load (k := 1) (vs := arr3 7 18 3) rfl rfl (by repeat (first | exact List.Mem.head _ | refine List.Mem.tail _ ?_)) Tryz.underlying97 rfl int3_info (kc32_p 1 7 18 3 (by decide)) ?_
          simp only [Act.put, List.setIfInBounds_toArray, List.set_cons_succ, List.set_cons_zero]
          refine lexC_field rfl rfl Tryz.underlying163 rfl ⟨0, by kernel_rfl⟩ rfl ?_
          simp only [Act.put, List.setIfInBounds_toArray, List.set_cons_succ, List.set_cons_zero]
          refine lexC_word (k := 0) (v := .int .i64 32) rfl rfl (by repeat (first | exact List.Mem.head _ | refine List.Mem.tail _ ?_)) rfl isAgg_int ?_
          simp only [Act.put, List.setIfInBounds_toArray, List.set_cons_succ, List.set_cons_zero]
          refine lexC_call rfl Tryz.func137 (by kernel_rfl) rfl rfl (fun w _ => mixed_any (f a15) 7 18 3 true w (HFL.out _) (by omega) (by omega) (by omega)) ?_
          simp only [Act.put, List.setIfInBounds_toArray, List.set_cons_succ, List.set_cons_zero]
          refine lexC_bin rfl rfl rfl run_add32 (fun _ => rfl) ?_
          simp only [Act.put, List.setIfInBounds_toArray, List.set_cons_succ, List.set_cons_zero]
          refine lexC_move rfl rfl ?_
          simp only [Act.put, List.setIfInBounds_toArray, List.set_cons_succ, List.set_cons_zero]
          refine lexC_move rfl rfl ?_
          simp only [Act.put, List.setIfInBounds_toArray, List.set_cons_succ, List.set_cons_zero]
          refine lexC_bin rfl rfl rfl (run_subi H7.out (by omega)) (fun _ => rfl) ?_
          simp only [Act.put, List.setIfInBounds_toArray, List.set_cons_succ, List.set_cons_zero]
          refine lexC_ixs (g := gw) (off := 0) (k := a7) (len := 64) (cap := 64) rfl rfl rfl Tryz.underlying71 (by kernel_rfl) (by have := H7.out; omega) ?_
          simp only [Act.put, List.setIfInBounds_toArray, List.set_cons_succ, List.set_cons_zero]
          refine lexC_word (v := .int .u32 ((f a7 : Nat) : Int)) rfl (by simp only [Nat.zero_add]; rfl) (by repeat (first | exact List.Mem.head _ | refine List.Mem.tail _ ?_)) (wc_get _ (by have := H7.out; omega)) isAgg_w ?_
          simp only [Act.put, List.setIfInBounds_toArray, List.set_cons_succ, List.set_cons_zero]
          refine lexC_bin rfl rfl rfl run_add32 (fun _ => rfl) ?_
          simp only [Act.put, List.setIfInBounds_toArray, List.set_cons_succ, List.set_cons_zero]
          refine lexC_move rfl rfl ?_
          simp only [Act.put, List.setIfInBounds_toArray, List.set_cons_succ, List.set_cons_zero]
          refine lexC_move rfl rfl ?_
          simp only [Act.put, List.setIfInBounds_toArray, List.set_cons_succ, List.set_cons_zero]
          refine lexC_bin rfl rfl rfl (run_subi H2.out (by omega)) (fun _ => rfl) ?_
          simp only [Act.put, List.setIfInBounds_toArray, List.set_cons_succ, List.set_cons_zero]
          refine lexC_ixs (g := gw) (off := 0) (k := a2) (len := 64) (cap := 64) rfl rfl rfl Tryz.underlying71 (by kernel_rfl) (by have := H2.out; omega) ?_
          simp only [Act.put, List.setIfInBounds_toArray, List.set_cons_succ, List.set_cons_zero]
          refine lexC_word (v := .int .u32 ((f a2 : Nat) : Int)) rfl (by simp only [Nat.zero_add]; rfl) (by repeat (first | exact List.Mem.head _ | refine List.Mem.tail _ ?_)) (wc_get _ (by have := H2.out; omega)) isAgg_w ?_
          simp only [Act.put, List.setIfInBounds_toArray, List.set_cons_succ, List.set_cons_zero]
          refine lexC_field rfl rfl Tryz.underlying163 rfl ⟨2, by kernel_rfl⟩ rfl ?_
          simp only [Act.put, List.setIfInBounds_toArray, List.set_cons_succ, List.set_cons_zero]
          refine lexC_load (k := 4) (vs := arr3 17 19 10) rfl rfl (by repeat (first | exact List.Mem.head _ | refine List.Mem.tail _ ?_)) Tryz.underlying97 rfl int3_info (kc32_p 4 17 19 10 (by decide)) ?_
          simp only [Act.put, List.setIfInBounds_toArray, List.set_cons_succ, List.set_cons_zero]
          refine lexC_field rfl rfl Tryz.underlying163 rfl ⟨0, by kernel_rfl⟩ rfl ?_
          simp only [Act.put, List.setIfInBounds_toArray, List.set_cons_succ, List.set_cons_zero]
          refine lexC_word (k := 0) (v := .int .i64 32) rfl rfl (by repeat (first | exact List.Mem.head _ | refine List.Mem.tail _ ?_)) rfl isAgg_int ?_
          simp only [Act.put, List.setIfInBounds_toArray, List.set_cons_succ, List.set_cons_zero]
          refine lexC_call rfl Tryz.func137 (by kernel_rfl) rfl rfl (fun w _ => mixed_any (f a2) 17 19 10 true w (HFL.out _) (by omega) (by omega) (by omega)) ?_
          simp only [Act.put, List.setIfInBounds_toArray, List.set_cons_succ, List.set_cons_zero]
          refine lexC_bin rfl rfl rfl run_add32 (fun _ => rfl) ?_
          simp only [Act.put, List.setIfInBounds_toArray, List.set_cons_succ, List.set_cons_zero]
          refine lexC_ixs (g := gw) (off := 0) (k := i) (len := 64) (cap := 64) rfl rfl rfl Tryz.underlying71 (by kernel_rfl) hin ?_
          simp only [Act.put, List.setIfInBounds_toArray, List.set_cons_succ, List.set_cons_zero]
          refine lexC_zero ?_; simp only [List.take_succ_cons, List.take_zero, List.drop_succ_cons, List.drop_zero]; (repeat (first | (refine aN_cons (by rfl) ?_; intro g; simp only [Act.put, List.setIfInBounds_toArray, List.set_cons_succ, List.set_cons_zero]) | (refine afterAl_skip (by rfl) ?_))); refine afterAl_nil ?_; intro w1 hR
          have hset := wstep_set f H16.out H15.out H7.out H2.out
          have hrow : wstep f i = wrun (wordsOf b) (i + 1 - 16) := by
            rw [HF.out, show i + 1 - 16 = (i - 16) + 1 by omega]
            show _ = wstep (wrun (wordsOf b) (i - 16)) (16 + (i - 16))
            rw [show 16 + (i - 16) = i by omega]
          rw [hrow] at hset
          have HSET := Lib.hid hset
          clear hset hrow
          refine wR_storec rfl rfl (by assumption) (by simp only [Nat.zero_add]; rfl) rfl Pick.here rfl w_info (by rw [wc_size]; exact hin) rfl HSET.out ?_
          intro w2 hR2
          go_wp2_with fail
          go_roundw
          case rel => exact ⟨i + 1, by omega, by omega, by go_num, hR2⟩
          case measure => simp [intOf]; omega
        · obtain rfl : i = 64 := by omega
          obtain ⟨f, hf⟩ : ∃ f, f = wrun (wordsOf b) 48 := ⟨_, rfl⟩
          have hR1 : Rws w.heap.size w wr [(gw, wc 64 (f), 60), (gr, wc 8 (fun _ => 0), 165), (gq, kc32, 163), (gs, wc 8 s, 165)] := by rw [hf]; exact hR
          have HF := Lib.hid hf
          clear hR hf
          go_upto_region 16 with (first
            | (refine wpList_load_rws rfl _ _ (by rfl) (by assumption) _ rfl _ _ (by repeat (first | exact List.Mem.head _ | refine List.Mem.tail _ ?_)) _ Tryz.underlying165 rfl (by rw [wc_size]; exact w8_info) ?_)
            | (refine wpList_alloc_rws rfl _ (by rfl) (by assumption) _ zero_w8 ?_; intro gv w1 hR)
            | (refine wpList_store_rws rfl _ _ _ (by rfl) (by assumption) _ rfl _ rfl _ _ _ (by repeat (first | exact Pick.here | apply Pick.there)) (by rw [wc_size]; exact w8_info) (by rw [wc_size, wc_size]) (wc_cells 8 s) ?_; intro w2 hR2))
          have HVS : Hid (∀ n j, rrun s kF f n j < 4294967296) := rrun_lt HS.out
          clear hR hR1
          obtain ⟨wo, rfl⟩ : ∃ wo : World, wo = w2 := ⟨_, rfl⟩
          rw [show ((64 : Nat) : Int) = 64 from rfl]
          go_wp2_with fail
          go_loopw [101] (fun iv wr => ∃ i : Nat, i ≤ 64 ∧ iv = .int .i64 i ∧ Rws w.heap.size w wr [(gv, wc 8 (rrun s kF f i), 165), (gw, wc 64 (f), 60), (gr, wc 8 (fun _ => 0), 165), (gq, kc32, 163), (gs, wc 8 s, 165)]) (fun iv _ => 64 - (intOf iv).toNat)
          case atStart => exact ⟨0, Nat.zero_le _, rfl, hR2⟩
          case round =>
            clear hR2
            obtain ⟨i, hi, rfl, hR⟩ := hrel
            by_cases hin : i < 64
            · have hdec2 : decide ((i : Int) < 64) = true := by rw [decide_eq_true_eq]; omega
              obtain ⟨v, hv⟩ : ∃ v, v = rrun s kF f i := ⟨_, rfl⟩
              rw [← hv] at hR
              have HVL : Hid (∀ j, v j < 4294967296) := by rw [hv]; exact HVS.out i
              have HNT : Hid (∀ j, 4294967295 ^^^ v j < 4294967296) := fun j => Nat.xor_lt_two_pow (n := 32) (by omega) (HVL.out j)
              have HAL : Hid (∀ x j, x &&& v j < 4294967296) := fun x j => Nat.and_lt_two_pow (n := 32) x (HVL.out j)
              have HXL : Hid (∀ x y, x < 4294967296 → y < 4294967296 → x ^^^ y < 4294967296) := fun x y hx hy => Nat.xor_lt_two_pow (n := 32) hx hy
              have HV := Lib.hid hv
              clear hv
              go_upto_region 19 with (fail)
              refine wp_region_calm 33 (by rfl) (by kernel_rfl) (by assumption) ?_
              refine lexC_ix (k := 7) rfl rfl rfl Tryz.underlying165 w_info (by decide) ?_
              simp only [Act.put, List.setIfInBounds_toArray, List.set_cons_succ, List.set_cons_zero]
              refine lexC_word (v := .int .u32 ((v 7 : Nat) : Int)) rfl rfl (by repeat (first | exact List.Mem.head _ | refine List.Mem.tail _ ?_)) (wc_get v (by decide)) isAgg_w ?_
              simp only [Act.put, List.setIfInBounds_toArray, List.set_cons_succ, List.set_cons_zero]
              refine lexC_ix (k := 4) rfl rfl rfl Tryz.underlying165 w_info (by decide) ?_
              simp only [Act.put, List.setIfInBounds_toArray, List.set_cons_succ, List.set_cons_zero]
              refine lexC_word (v := .int .u32 ((v 4 : Nat) : Int)) rfl rfl (by repeat (first | exact List.Mem.head _ | refine List.Mem.tail _ ?_)) (wc_get v (by decide)) isAgg_w ?_
              simp only [Act.put, List.setIfInBounds_toArray, List.set_cons_succ, List.set_cons_zero]
              refine lexC_field rfl rfl Tryz.underlying163 rfl ⟨2, by kernel_rfl⟩ rfl ?_
              simp only [Act.put, List.setIfInBounds_toArray, List.set_cons_succ, List.set_cons_zero]
              refine lexC_load (k := 7) (vs := arr3 6 11 25) rfl rfl (by repeat (first | exact List.Mem.head _ | refine List.Mem.tail _ ?_)) Tryz.underlying97 rfl int3_info (kc32_p 7 6 11 25 (by decide)) ?_
              simp only [Act.put, List.setIfInBounds_toArray, List.set_cons_succ, List.set_cons_zero]
              refine lexC_field rfl rfl Tryz.underlying163 rfl ⟨0, by kernel_rfl⟩ rfl ?_
              simp only [Act.put, List.setIfInBounds_toArray, List.set_cons_succ, List.set_cons_zero]
              refine lexC_word (k := 0) (v := .int .i64 32) rfl rfl (by repeat (first | exact List.Mem.head _ | refine List.Mem.tail _ ?_)) rfl isAgg_int ?_
              simp only [Act.put, List.setIfInBounds_toArray, List.set_cons_succ, List.set_cons_zero]
              refine lexC_call rfl Tryz.func137 (by kernel_rfl) rfl rfl (fun w _ => mixed_any (v 4) 6 11 25 false w (HVL.out _) (by omega) (by omega) (by omega)) ?_
              simp only [Act.put, List.setIfInBounds_toArray, List.set_cons_succ, List.set_cons_zero]
              refine lexC_bin rfl rfl rfl run_add32 (fun _ => rfl) ?_
              simp only [Act.put, List.setIfInBounds_toArray, List.set_cons_succ, List.set_cons_zero]
              refine lexC_ix (k := 4) rfl rfl rfl Tryz.underlying165 w_info (by decide) ?_
              simp only [Act.put, List.setIfInBounds_toArray, List.set_cons_succ, List.set_cons_zero]
              refine lexC_word (v := .int .u32 ((v 4 : Nat) : Int)) rfl rfl (by repeat (first | exact List.Mem.head _ | refine List.Mem.tail _ ?_)) (wc_get v (by decide)) isAgg_w ?_
              simp only [Act.put, List.setIfInBounds_toArray, List.set_cons_succ, List.set_cons_zero]
              refine lexC_ix (k := 5) rfl rfl rfl Tryz.underlying165 w_info (by decide) ?_
              simp only [Act.put, List.setIfInBounds_toArray, List.set_cons_succ, List.set_cons_zero]
              refine lexC_word (v := .int .u32 ((v 5 : Nat) : Int)) rfl rfl (by repeat (first | exact List.Mem.head _ | refine List.Mem.tail _ ?_)) (wc_get v (by decide)) isAgg_w ?_
              simp only [Act.put, List.setIfInBounds_toArray, List.set_cons_succ, List.set_cons_zero]
              refine lexC_bin rfl rfl rfl (run_and32 (HVL.out _) (HVL.out _)) (fun _ => rfl) ?_
              simp only [Act.put, List.setIfInBounds_toArray, List.set_cons_succ, List.set_cons_zero]
              refine lexC_ix (k := 4) rfl rfl rfl Tryz.underlying165 w_info (by decide) ?_
              simp only [Act.put, List.setIfInBounds_toArray, List.set_cons_succ, List.set_cons_zero]
              refine lexC_word (v := .int .u32 ((v 4 : Nat) : Int)) rfl rfl (by repeat (first | exact List.Mem.head _ | refine List.Mem.tail _ ?_)) (wc_get v (by decide)) isAgg_w ?_
              simp only [Act.put, List.setIfInBounds_toArray, List.set_cons_succ, List.set_cons_zero]
              refine lexC_un rfl rfl (run_not32 (HVL.out _)) ?_
              simp only [Act.put, List.setIfInBounds_toArray, List.set_cons_succ, List.set_cons_zero]
              refine lexC_ix (k := 6) rfl rfl rfl Tryz.underlying165 w_info (by decide) ?_
              simp only [Act.put, List.setIfInBounds_toArray, List.set_cons_succ, List.set_cons_zero]
              refine lexC_word (v := .int .u32 ((v 6 : Nat) : Int)) rfl rfl (by repeat (first | exact List.Mem.head _ | refine List.Mem.tail _ ?_)) (wc_get v (by decide)) isAgg_w ?_
              simp only [Act.put, List.setIfInBounds_toArray, List.set_cons_succ, List.set_cons_zero]
              refine lexC_bin rfl rfl rfl (run_and32 (HNT.out _) (HVL.out _)) (fun _ => rfl) ?_
              simp only [Act.put, List.setIfInBounds_toArray, List.set_cons_succ, List.set_cons_zero]
              refine lexC_bin rfl rfl rfl (run_xor32 (HAL.out _ _) (HAL.out _ _)) (fun _ => rfl) ?_
              simp only [Act.put, List.setIfInBounds_toArray, List.set_cons_succ, List.set_cons_zero]
              refine lexC_bin rfl rfl rfl run_add32 (fun _ => rfl) ?_
              simp only [Act.put, List.setIfInBounds_toArray, List.set_cons_succ, List.set_cons_zero]
              refine lexC_move rfl rfl ?_
              simp only [Act.put, List.setIfInBounds_toArray, List.set_cons_succ, List.set_cons_zero]
              refine lexC_move rfl rfl ?_
              simp only [Act.put, List.setIfInBounds_toArray, List.set_cons_succ, List.set_cons_zero]
              refine lexC_ixs (g := gk) (off := 0) (k := i) (len := 64) (cap := 64) rfl rfl rfl Tryz.underlying71 (by kernel_rfl) hin ?_
              simp only [Act.put, List.setIfInBounds_toArray, List.set_cons_succ, List.set_cons_zero]
              refine lexC_old (v := .int .u32 ((kF i : Nat) : Int)) rfl (by simp only [Nat.zero_add]; rfl) hgk (HKC.out i hin) isAgg_w ?_
              simp only [Act.put, List.setIfInBounds_toArray, List.set_cons_succ, List.set_cons_zero]
              refine lexC_bin rfl rfl rfl run_add32 (fun _ => rfl) ?_
              simp only [Act.put, List.setIfInBounds_toArray, List.set_cons_succ, List.set_cons_zero]
              refine lexC_move rfl rfl ?_
              simp only [Act.put, List.setIfInBounds_toArray, List.set_cons_succ, List.set_cons_zero]
              refine lexC_move rfl rfl ?_
              simp only [Act.put, List.setIfInBounds_toArray, List.set_cons_succ, List.set_cons_zero]
              refine lexC_ixs (g := gw) (off := 0) (k := i) (len := 64) (cap := 64) rfl rfl rfl Tryz.underlying71 (by kernel_rfl) hin ?_
              simp only [Act.put, List.setIfInBounds_toArray, List.set_cons_succ, List.set_cons_zero]
              refine lexC_word (v := .int .u32 ((f i : Nat) : Int)) rfl (by simp only [Nat.zero_add]; rfl) (by repeat (first | exact List.Mem.head _ | refine List.Mem.tail _ ?_)) (wc_get _ hin) isAgg_w ?_
              simp only [Act.put, List.setIfInBounds_toArray, List.set_cons_succ, List.set_cons_zero]
              refine lexC_bin (r := .int .u32 ((rT v (kF i) (f i) : Nat) : Int)) rfl rfl rfl (fun w => run_add32 w) (fun _ => rfl) ?_
              simp only [Act.put, List.setIfInBounds_toArray, List.set_cons_succ, List.set_cons_zero]
              refine lexC_zero ?_; simp only [List.take_succ_cons, List.take_zero, List.drop_succ_cons, List.drop_zero]; (repeat (first | (refine aN_cons (by rfl) ?_; intro g; simp only [Act.put, List.setIfInBounds_toArray, List.set_cons_succ, List.set_cons_zero]) | (refine afterAl_skip (by rfl) ?_))); refine afterAl_nil ?_; intro w1 hR
              obtain ⟨T, hT⟩ : ∃ T, T = rT v (kF i) (f i) := ⟨_, rfl⟩
              rw [← hT]
              have HT := Lib.hid hT
              clear hT
              go_upto_region 20 with (fail)
              refine wp_region_calm 25 (by rfl) (by kernel_rfl) (by assumption) ?_
              refine lexC_ix (k := 0) rfl rfl rfl Tryz.underlying165 w_info (by decide) ?_
              simp only [Act.put, List.setIfInBounds_toArray, List.set_cons_succ, List.set_cons_zero]
              refine lexC_word (v := .int .u32 ((v 0 : Nat) : Int)) rfl rfl (by repeat (first | exact List.Mem.head _ | refine List.Mem.tail _ ?_)) (wc_get v (by decide)) isAgg_w ?_
              simp only [Act.put, List.setIfInBounds_toArray, List.set_cons_succ, List.set_cons_zero]
              refine lexC_field rfl rfl Tryz.underlying163 rfl ⟨2, by kernel_rfl⟩ rfl ?_
              simp only [Act.put, List.setIfInBounds_toArray, List.set_cons_succ, List.set_cons_zero]
              refine lexC_load (k := 10) (vs := arr3 2 13 22) rfl rfl (by repeat (first | exact List.Mem.head _ | refine List.Mem.tail _ ?_)) Tryz.underlying97 rfl int3_info (kc32_p 10 2 13 22 (by decide)) ?_
              simp only [Act.put, List.setIfInBounds_toArray, List.set_cons_succ, List.set_cons_zero]
              refine lexC_field rfl rfl Tryz.underlying163 rfl ⟨0, by kernel_rfl⟩ rfl ?_
              simp only [Act.put, List.setIfInBounds_toArray, List.set_cons_succ, List.set_cons_zero]
              refine lexC_word (k := 0) (v := .int .i64 32) rfl rfl (by repeat (first | exact List.Mem.head _ | refine List.Mem.tail _ ?_)) rfl isAgg_int ?_
              simp only [Act.put, List.setIfInBounds_toArray, List.set_cons_succ, List.set_cons_zero]
              refine lexC_call rfl Tryz.func137 (by kernel_rfl) rfl rfl (fun w _ => mixed_any (v 0) 2 13 22 false w (HVL.out _) (by omega) (by omega) (by omega)) ?_
              simp only [Act.put, List.setIfInBounds_toArray, List.set_cons_succ, List.set_cons_zero]
              refine lexC_ix (k := 0) rfl rfl rfl Tryz.underlying165 w_info (by decide) ?_
              simp only [Act.put, List.setIfInBounds_toArray, List.set_cons_succ, List.set_cons_zero]
              refine lexC_word (v := .int .u32 ((v 0 : Nat) : Int)) rfl rfl (by repeat (first | exact List.Mem.head _ | refine List.Mem.tail _ ?_)) (wc_get v (by decide)) isAgg_w ?_
              simp only [Act.put, List.setIfInBounds_toArray, List.set_cons_succ, List.set_cons_zero]
              refine lexC_ix (k := 1) rfl rfl rfl Tryz.underlying165 w_info (by decide) ?_
              simp only [Act.put, List.setIfInBounds_toArray, List.set_cons_succ, List.set_cons_zero]
              refine lexC_word (v := .int .u32 ((v 1 : Nat) : Int)) rfl rfl (by repeat (first | exact List.Mem.head _ | refine List.Mem.tail _ ?_)) (wc_get v (by decide)) isAgg_w ?_
              simp only [Act.put, List.setIfInBounds_toArray, List.set_cons_succ, List.set_cons_zero]
              refine lexC_bin rfl rfl rfl (run_and32 (HVL.out _) (HVL.out _)) (fun _ => rfl) ?_
              simp only [Act.put, List.setIfInBounds_toArray, List.set_cons_succ, List.set_cons_zero]
              refine lexC_ix (k := 0) rfl rfl rfl Tryz.underlying165 w_info (by decide) ?_
              simp only [Act.put, List.setIfInBounds_toArray, List.set_cons_succ, List.set_cons_zero]
              refine lexC_word (v := .int .u32 ((v 0 : Nat) : Int)) rfl rfl (by repeat (first | exact List.Mem.head _ | refine List.Mem.tail _ ?_)) (wc_get v (by decide)) isAgg_w ?_
              simp only [Act.put, List.setIfInBounds_toArray, List.set_cons_succ, List.set_cons_zero]
              refine lexC_ix (k := 2) rfl rfl rfl Tryz.underlying165 w_info (by decide) ?_
              simp only [Act.put, List.setIfInBounds_toArray, List.set_cons_succ, List.set_cons_zero]
              refine lexC_word (v := .int .u32 ((v 2 : Nat) : Int)) rfl rfl (by repeat (first | exact List.Mem.head _ | refine List.Mem.tail _ ?_)) (wc_get v (by decide)) isAgg_w ?_
              simp only [Act.put, List.setIfInBounds_toArray, List.set_cons_succ, List.set_cons_zero]
              refine lexC_bin rfl rfl rfl (run_and32 (HVL.out _) (HVL.out _)) (fun _ => rfl) ?_
              simp only [Act.put, List.setIfInBounds_toArray, List.set_cons_succ, List.set_cons_zero]
              refine lexC_bin rfl rfl rfl (run_xor32 (HAL.out _ _) (HAL.out _ _)) (fun _ => rfl) ?_
              simp only [Act.put, List.setIfInBounds_toArray, List.set_cons_succ, List.set_cons_zero]
              refine lexC_ix (k := 1) rfl rfl rfl Tryz.underlying165 w_info (by decide) ?_
              simp only [Act.put, List.setIfInBounds_toArray, List.set_cons_succ, List.set_cons_zero]
              refine lexC_word (v := .int .u32 ((v 1 : Nat) : Int)) rfl rfl (by repeat (first | exact List.Mem.head _ | refine List.Mem.tail _ ?_)) (wc_get v (by decide)) isAgg_w ?_
              simp only [Act.put, List.setIfInBounds_toArray, List.set_cons_succ, List.set_cons_zero]
              refine lexC_ix (k := 2) rfl rfl rfl Tryz.underlying165 w_info (by decide) ?_
              simp only [Act.put, List.setIfInBounds_toArray, List.set_cons_succ, List.set_cons_zero]
              refine lexC_word (v := .int .u32 ((v 2 : Nat) : Int)) rfl rfl (by repeat (first | exact List.Mem.head _ | refine List.Mem.tail _ ?_)) (wc_get v (by decide)) isAgg_w ?_
              simp only [Act.put, List.setIfInBounds_toArray, List.set_cons_succ, List.set_cons_zero]
              refine lexC_bin rfl rfl rfl (run_and32 (HVL.out _) (HVL.out _)) (fun _ => rfl) ?_
              simp only [Act.put, List.setIfInBounds_toArray, List.set_cons_succ, List.set_cons_zero]
              refine lexC_bin rfl rfl rfl (run_xor32 (HXL.out _ _ (HAL.out _ _) (HAL.out _ _)) (HAL.out _ _)) (fun _ => rfl) ?_
              simp only [Act.put, List.setIfInBounds_toArray, List.set_cons_succ, List.set_cons_zero]
              refine lexC_bin (r := .int .u32 ((rU v : Nat) : Int)) rfl rfl rfl (fun w => run_add32 w) (fun _ => rfl) ?_
              simp only [Act.put, List.setIfInBounds_toArray, List.set_cons_succ, List.set_cons_zero]
              refine lexC_zero ?_; simp only [List.take_succ_cons, List.take_zero, List.drop_succ_cons, List.drop_zero]; (repeat (first | (refine aN_cons (by rfl) ?_; intro g; simp only [Act.put, List.setIfInBounds_toArray, List.set_cons_succ, List.set_cons_zero]) | (refine afterAl_skip (by rfl) ?_))); refine afterAl_nil ?_; intro w1 hR
              obtain ⟨U, hU⟩ : ∃ U, U = rU v := ⟨_, rfl⟩
              rw [← hU]
              have HU := Lib.hid hU
              clear hU
              go_upto_region 21 with (fail)
              refine wp_region_calm 2 (by rfl) (by kernel_rfl) (by assumption) ?_
              refine lexC_cut (v := .slice (some ⟨gv, 1, none⟩) 7 7) (l0 := some (.int .i64 ((1 : Nat) : Int))) (h0 := none) rfl rfl rfl rfl (run_cutAl (t := 165) (k := 0) (n := 8) (l := 1) Tryz.underlying165 (by rfl) (by kernel_rfl) (by omega)) ?_
              simp only [Act.put, List.setIfInBounds_toArray, List.set_cons_succ, List.set_cons_zero]
              refine lexC_cut (v := .slice (some ⟨gv, 0, none⟩) 7 8) (l0 := none) (h0 := some (.int .i64 ((7 : Nat) : Int))) rfl rfl rfl rfl (run_cutAh (t := 165) (k := 0) (n := 8) (h := 7) Tryz.underlying165 (by rfl) (by kernel_rfl) (by omega) (by omega)) ?_
              simp only [Act.put, List.setIfInBounds_toArray, List.set_cons_succ, List.set_cons_zero]
              refine lexC_zero ?_; simp only [List.take_succ_cons, List.take_zero, List.drop_succ_cons, List.drop_zero]; (repeat (first | (refine aN_cons (by rfl) ?_; intro g; simp only [Act.put, List.setIfInBounds_toArray, List.set_cons_succ, List.set_cons_zero]) | (refine afterAl_skip (by rfl) ?_))); refine afterAl_nil ?_; intro w1 hR
              obtain ⟨cs, hcs⟩ : ∃ cs : List Value, cs = (List.range 7).map fun j => Value.int .u32 ((v j : Nat) : Int) := ⟨_, rfl⟩
              have hcl : cs.length = 7 := by rw [hcs]; rfl
              have hcg : ∀ j x, cs[j]? = some x → w1.cell? ((⟨gv, 0, none⟩ : Addr).add j) = some x := fun j x hx => by
                have hj : j < 7 := by
                  have := (List.getElem?_eq_some_iff.1 hx).1
                  omega
                rw [addr_add, Nat.zero_add]
                refine (hR.cellAt (List.Mem.head _) j (wc_get v (by omega))).trans ?_
                rw [hcs, List.getElem?_map, List.getElem?_range hj] at hx
                exact hx
              have hc1 : ∀ x ∈ cs, x.oneCell' = true := fun x hx => by
                rw [hcs] at hx
                obtain ⟨j, _, rfl⟩ := List.mem_map.1 hx
                rfl
              have hnew := copy_row v cs hcs
              refine wR_copy (cs := cs) (dCap := 7) (sCap := 8) rfl rfl (by assumption) rfl rfl Pick.here Tryz.underlying71 (by kernel_rfl) hcl hcg (by rw [wc_size, hcl]; omega) hc1 hnew ?_
              intro w2 hR2
              clear hR hnew hc1 hcg hcs
              have hcg : goInt cs.length = .int .i64 7 := by rw [hcl]; rfl
              rw [hcg]
              clear hcg hcl
              obtain ⟨y4, hy4⟩ : ∃ y, y = (shl1 v 4 + T) % 4294967296 := ⟨_, rfl⟩
              obtain ⟨y0, hy0⟩ : ∃ y, y = (T + U) % 4294967296 := ⟨_, rfl⟩
              obtain ⟨x4, hx4⟩ : ∃ x, x = shl1 v 4 := ⟨_, rfl⟩
              have hrow := row_step v (kF i) (f i) T U HT.out HU.out
              rw [← hy4, ← hy0] at hrow
              rw [← hx4] at hy4
              have a4 : IntKind.u32.wrap ((x4 : Int) + (T : Int)) = (y4 : Int) := by rw [IntKind.wrap_u32]; omega
              have a0 : IntKind.u32.wrap ((T : Int) + (U : Int)) = (y0 : Int) := by rw [IntKind.wrap_u32]; omega
              have hx4' : (wc 8 (shl1 v))[4]? = some (.int .u32 (x4 : Int)) := by rw [wc_get _ (by omega), hx4]
              have HROW := Lib.hid hrow; have HX4 := Lib.hid hx4'
              clear hrow hx4' hx4 hy4 hy0
              obtain ⟨r4, hr4⟩ : ∃ r, r = (wc 8 (shl1 v)).setIfInBounds 4 (.int .u32 (y4 : Int)) := ⟨_, rfl⟩
              have hs4 : r4.size = 8 := by rw [hr4, Array.size_setIfInBounds, wc_size]
              have hrow := HROW.out
              rw [← hr4] at hrow
              have HR4 := Lib.hid hr4; have HS4 := Lib.hid hs4; have HROW2 := Lib.hid hrow
              clear hr4 hs4 hrow HROW
              go_wp2_with (first
                | (refine wR_loadc rfl (by rfl) (by assumption) rfl (by repeat (first | exact List.Mem.head _ | refine List.Mem.tail _ ?_)) HX4.out isAgg_w ?_)
                | (refine wR_storec (new := r4) (v := .int .u32 (y4 : Int)) rfl (by rfl) (by assumption) rfl (by rfl) Pick.here rfl w_info (by rw [wc_size]; omega) rfl HR4.out.symm ?_; intro w3 hR3)
                | (refine wR_storec (v := .int .u32 (y0 : Int)) rfl (by rfl) (by assumption) rfl (by rfl) Pick.here rfl w_info (by rw [HS4.out]; omega) rfl HROW2.out ?_; intro w4 hR4))
              have hst : rstep v (kF i) (f i) = rrun s kF f (i + 1) := by
                show _ = rstep (rrun s kF f i) (kF i) (f i)
                rw [HV.out]
              rw [hst] at hR4
              clear hst a4 a0
              go_roundw
              case rel => exact ⟨i + 1, by omega, by go_num, hR4⟩
              case measure => simp [intOf]; omega
            · obtain rfl : i = 64 := by omega
              obtain ⟨v, hv⟩ : ∃ v, v = rrun s kF f 64 := ⟨_, rfl⟩
              have hR1 : Rws w.heap.size w wr [(gv, wc 8 (fun j => if j < 0 then (v j + s j) % 4294967296 else v j), 165), (gw, wc 64 (f), 60), (gr, wc 8 (fun _ => 0), 165), (gq, kc32, 163), (gs, wc 8 s, 165)] := by
                have e : wc 8 v = wc 8 (fun j => if j < 0 then (v j + s j) % 4294967296 else v j) := wc_congr fun j _ => (if_neg (Nat.not_lt_zero j)).symm
                rw [← e, hv]; exact hR
              have HV := Lib.hid hv
              clear hR hv
              rw [show ((64 : Nat) : Int) = 64 from rfl]
              obtain ⟨wo, rfl⟩ : ∃ wo : World, wo = wr := ⟨_, rfl⟩
              go_wp2_with fail
              go_loopw [175] (fun iv wr => ∃ i : Nat, i ≤ 8 ∧ iv = .int .i64 i ∧ Rws w.heap.size w wr [(gv, wc 8 (fun j => if j < i then (v j + s j) % 4294967296 else v j), 165), (gw, wc 64 (f), 60), (gr, wc 8 (fun _ => 0), 165), (gq, kc32, 163), (gs, wc 8 s, 165)]) (fun iv _ => 8 - (intOf iv).toNat)
              case atStart => exact ⟨0, Nat.zero_le _, rfl, hR1⟩
              case round =>
                clear hR1
                obtain ⟨i, hi, rfl, hR⟩ := hrel
                by_cases hin : i < 8
                · have hdec2 : decide ((i : Int) < 8) = true := by rw [decide_eq_true_eq]; omega
                  go_upto_region 28 with (fail)
                  refine wp_region_calm 8 (by rfl) (by kernel_rfl) (by assumption) ?_
                  refine lexC_move rfl rfl ?_
                  simp only [Act.put, List.setIfInBounds_toArray, List.set_cons_succ, List.set_cons_zero]
                  refine lexC_ix (k := i) rfl rfl rfl Tryz.underlying165 w_info hin ?_
                  simp only [Act.put, List.setIfInBounds_toArray, List.set_cons_succ, List.set_cons_zero]
                  refine lexC_word (v := .int .u32 ((v i : Nat) : Int)) rfl rfl (by repeat (first | exact List.Mem.head _ | refine List.Mem.tail _ ?_)) (by rw [wc_get _ hin, if_neg (Nat.lt_irrefl i)]) isAgg_w ?_
                  simp only [Act.put, List.setIfInBounds_toArray, List.set_cons_succ, List.set_cons_zero]
                  refine lexC_move rfl rfl ?_
                  simp only [Act.put, List.setIfInBounds_toArray, List.set_cons_succ, List.set_cons_zero]
                  refine lexC_ix (k := i) rfl rfl rfl Tryz.underlying165 w_info hin ?_
                  simp only [Act.put, List.setIfInBounds_toArray, List.set_cons_succ, List.set_cons_zero]
                  refine lexC_word (v := .int .u32 ((s i : Nat) : Int)) rfl rfl (by repeat (first | exact List.Mem.head _ | refine List.Mem.tail _ ?_)) (wc_get _ hin) isAgg_w ?_
                  simp only [Act.put, List.setIfInBounds_toArray, List.set_cons_succ, List.set_cons_zero]
                  refine lexC_bin rfl rfl rfl run_add32 (fun _ => rfl) ?_
                  simp only [Act.put, List.setIfInBounds_toArray, List.set_cons_succ, List.set_cons_zero]
                  refine lexC_ix (k := i) rfl rfl rfl Tryz.underlying165 w_info hin ?_
                  simp only [Act.put, List.setIfInBounds_toArray, List.set_cons_succ, List.set_cons_zero]
                  refine lexC_zero ?_; simp only [List.take_succ_cons, List.take_zero, List.drop_succ_cons, List.drop_zero]; (repeat (first | (refine aN_cons (by rfl) ?_; intro g; simp only [Act.put, List.setIfInBounds_toArray, List.set_cons_succ, List.set_cons_zero]) | (refine afterAl_skip (by rfl) ?_))); refine afterAl_nil ?_; intro w1 hR
                  refine wR_storec rfl rfl (by assumption) rfl rfl Pick.here rfl w_info (by rw [wc_size]; exact hin) rfl (add_row v s i) ?_
                  intro w2 hR2
                  go_wp2_with fail
                  go_roundw
                  case rel => exact ⟨i + 1, by omega, by go_num, hR2⟩
                  case measure => simp [intOf]; omega
                · obtain rfl : i = 8 := by omega
                  have e : (wc 8 fun j => if j < 8 then (v j + s j) % 4294967296 else v j) = wc 8 (next32 s b) := wc_congr fun j hj => by
                    rw [if_pos hj, HV.out, HF.out]; rfl
                  rw [e] at hR
                  clear e
                  go_wp2_with (first
                    | (refine wpList_load_rws rfl _ _ (by rfl) (by assumption) _ rfl _ _ (by repeat (first | exact List.Mem.head _ | refine List.Mem.tail _ ?_)) _ Tryz.underlying165 rfl (by rw [wc_size]; exact w8_info) ?_)
                    | (refine wpList_store_rws rfl _ _ _ (by rfl) (by assumption) _ rfl _ rfl _ _ _ (by repeat (first | exact Pick.here | apply Pick.there)) (by rw [wc_size]; exact w8_info) (by rw [wc_size, wc_size]) (wc_cells 8 _) ?_; intro w2 hR2))
                  exact bodyPost_rws Tryz.results124 hR2 _ rfl _ _ (List.Mem.head _) _ Tryz.underlying165 rfl (by rw [wc_size]; exact w8_info) rfl fun hb => ⟨rfl, hb⟩
end Go.Proofs.YtjkjlbchbbpmaaaGreatDoor
