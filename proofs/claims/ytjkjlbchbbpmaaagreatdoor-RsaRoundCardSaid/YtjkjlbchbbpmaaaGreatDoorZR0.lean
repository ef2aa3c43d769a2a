/- RBase RForm RTimes ROf RCmp RDivide, in one text. -/
import Derived.Test.YtjkjlbchbbpmaaaGreatDoorZN2
/- The reference's numbers: digits to the base 65536, in cells of 64 bits. -/
namespace Go.Proofs.YtjkjlbchbbpmaaaGreatDoor
open Go.RowKit

def DB : Nat := 65536
theorem DB_eq : DB = 65536 := rfl
theorem DB2 : 2 ≤ DB := by rw [DB_eq]; omega
theorem DBpos : 0 < DB := by rw [DB_eq]; omega

theorem info64 : (Tryz.prog.info? 51).map (fun i => (i.zero, i.size, i.bytes)) = some (some (.int .u64 0), 1, 8) := by kernel_rfl

/-- The slice reads as the number v, without noughts above. -/
structure RN (w : World) (ao : Option Addr) (n cap v : Nat) : Prop where
  len : n = Dg.len DB v
  rd : Rd w .u64 ao n cap (Dg.dg DB v)
theorem RN.below {w w' : World} {B : Nat} {ao : Option Addr} {n cap v : Nat} (h : RN w ao n cap v) (hb : Below B w w') (hB : w.heap.size ≤ B) : RN w' ao n cap v := ⟨h.len, h.rd.below hb hB⟩
theorem RN.drewN {w : World} {ao : Option Addr} {n cap v : Nat} (h : RN w ao n cap v) (q : Nat) : RN (w.drewN q) ao n cap v := ⟨h.len, h.rd.drewN q⟩
theorem RN.lt {w : World} {ao : Option Addr} {n cap v : Nat} (h : RN w ao n cap v) : v < DB ^ n := by rw [h.len]; exact Dg.lt_pow_len DB2 v
theorem RN.le {w : World} {ao : Option Addr} {n cap v k : Nat} (h : RN w ao n cap v) (hv : v < DB ^ k) : n ≤ k := by rw [h.len]; exact (Dg.len_le_iff DB2 v k).2 hv

/-- The call answers a slice that reads as v; nothing that was there has changed. -/
def RetRN (w : World) (v : Nat) (e : Ending) (w' : World) : Prop :=
  ∃ ro k cap, e = .returned (.slice ro k cap) ∧ RN w' ro k cap v ∧ Below w.heap.size w w'

theorem tl_dgB {B : Nat} (hB : 2 ≤ B) (v : Nat) : ∀ n, v < B ^ n → tl (Dg.dg B v) n = Dg.len B v
  | 0, h => by
    have : v = 0 := by simpa using h
    subst this
    rw [Dg.len_zero]; rfl
  | n + 1, h => by
    unfold tl
    by_cases h0 : Dg.dg B v n = 0
    · rw [if_pos h0]
      refine tl_dgB hB v n ?_
      have e := Dg.mod_succ B v n
      rw [Nat.mod_eq_of_lt h, h0] at e
      rw [e]
      simpa using Nat.mod_lt v (Nat.pow_pos (n := n) (show 0 < B by omega))
    · rw [if_neg h0]
      exact (Dg.len_unique hB h (Or.inr (by simp; omega))).symm

/-- A digit raised, where nothing is carried. -/
theorem dg_add_at {B V k x : Nat} (hB : 0 < B) (h : Dg.dg B V k + x < B) (j : Nat) : Dg.dg B (V + x * B ^ k) j = if j = k then Dg.dg B V k + x else Dg.dg B V j := by
  have hp : 0 < B ^ k := Nat.pow_pos hB
  have e1 : (V + x * B ^ k) / B ^ k = V / B ^ k + x := by rw [Nat.mul_comm x, Nat.add_mul_div_left _ _ hp]
  have e2 : V / B ^ k = B * (V / B ^ (k + 1)) + Dg.dg B V k := by
    unfold Dg.dg
    rw [Nat.pow_succ, ← Nat.div_div_eq_div_mul]
    exact (Nat.div_add_mod _ _).symm
  by_cases hj : j = k
  · subst hj
    rw [if_pos rfl]
    show (V + x * B ^ j) / B ^ j % B = _
    rw [e1, e2, Nat.add_assoc, Nat.mul_add_mod, Nat.mod_eq_of_lt h]
  · rw [if_neg hj]
    rcases Nat.lt_or_gt_of_ne hj with h1 | h1
    · obtain ⟨d, rfl⟩ : ∃ d, k = j + 1 + d := ⟨k - (j + 1), by omega⟩
      have e4 : x * B ^ (j + 1 + d) = B ^ j * (B * (x * B ^ d)) := by
        rw [Nat.pow_add, Nat.pow_succ]
        simp only [Nat.mul_comm, Nat.mul_left_comm, Nat.mul_assoc]
      unfold Dg.dg
      rw [e4, Nat.add_mul_div_left _ _ (Nat.pow_pos hB), Nat.add_mul_mod_self_left]
    · obtain ⟨d, rfl⟩ : ∃ d, j = k + 1 + d := ⟨j - (k + 1), by omega⟩
      rw [← Dg.dg_div, ← Dg.dg_div]
      congr 1
      have e5 : (V + x * B ^ k) / B ^ k / B = V / B ^ (k + 1) := by
        rw [e1, e2, Nat.add_assoc, Nat.mul_add_div hB, Nat.div_eq_of_lt h, Nat.add_zero]
      rw [Nat.div_div_eq_div_mul, ← Nat.pow_succ] at e5
      rw [e5]

set_option maxRecDepth 100000 in
theorem rtrim_any (ao : Option Addr) (n cap : Nat) (f : Nat → Nat) (w : World) (hr : Rd w .u64 ao n cap f) :
    Calls Tryz.prog 53 #[.slice ao n cap] w fun e w' => e = .returned (.slice ao (tl f n) cap) ∧ w = w' := by
  have hle := hr.le
  have hcm := hr.cm
  go_enter Tryz.func53, Tryz.ntmps53
  go_wp2
  go_loop [0] (fun v => ∃ m : Nat, m ≤ n ∧ v = .slice ao m cap ∧ tl f m = tl f n) (fun v => slLen v)
  case atStart => exact ⟨n, Nat.le_refl _, rfl, rfl⟩
  case round =>
    obtain ⟨m, hm, rfl, ht⟩ := hrel
    have HT := Lib.hid ht; clear ht
    have hs := hr.sh.mono hm
    by_cases h0 : 0 < m
    · obtain ⟨k, rfl⟩ : ∃ k, m = k + 1 := ⟨m - 1, by omega⟩
      have hc : w.cell? ⟨blk ao, off ao + k, none⟩ = some (.int .u64 (f k : Nat)) := hr.cell _ (by omega)
      go_wp2
      · have hz : ((f k : Int) == 0) = true := by assumption
        have hz' : f k = 0 := by simpa using hz
        go_round
        case rel => exact ⟨k, by omega, rfl, by rw [← HT.out, tl, if_pos hz']⟩
        case measure => simp [slLen]
      · have hz : ((f k : Int) == 0) = false := by assumption
        have hz' : ¬ f k = 0 := by simpa using hz
        go_ret
        exact ⟨ret_slice (by rw [← HT.out, tl, if_neg hz']) rfl, rfl⟩
    · obtain rfl : m = 0 := by omega
      go_wp2
      go_ret
      exact ⟨ret_slice HT.out rfl, rfl⟩

theorem rtrim_num (ao : Option Addr) (n cap v : Nat) (w : World) (hr : Rd w .u64 ao n cap (Dg.dg DB v)) (hv : v < DB ^ n) :
    Calls Tryz.prog 53 #[.slice ao n cap] w fun e w' => ∃ k, e = .returned (.slice ao k cap) ∧ RN w ao k cap v ∧ w = w' :=
  (rtrim_any ao n cap _ w hr).mono fun _ _ ⟨he, hw⟩ => ⟨_, he, ⟨tl_dgB DB2 v n hv, hr.take (tl_le _ _)⟩, hw⟩
end Go.Proofs.YtjkjlbchbbpmaaaGreatDoor
/- The reference's Form: the walk. -/
namespace Go.Proofs.YtjkjlbchbbpmaaaGreatDoor
open Go.RowKit

theorem fm_two {q d : Nat} (hd : d < 65536) (h : 0 < q ∨ 255 < d) : fm (65536 * q + d) = fm q ++ [UInt8.ofNat (d / 256), UInt8.ofNat (d % 256)] := by
  rw [fm_pos (by omega), fm_pos (v := (65536 * q + d) / 256) (by omega)]
  have e1 : (65536 * q + d) / 256 / 256 = q := by omega
  have e2 : (65536 * q + d) / 256 % 256 = d / 256 := by omega
  have e3 : (65536 * q + d) % 256 = d % 256 := by omega
  rw [e1, e2, e3, List.append_assoc]; rfl
theorem fm_one {d : Nat} (h0 : 0 < d) (h : d ≤ 255) : fm d = [UInt8.ofNat (d % 256)] := by
  rw [fm_pos h0, Nat.div_eq_of_lt (by omega), fm_zero]; rfl
theorem fm_len_le {v k : Nat} (h : v < DB ^ k) : (fm v).length ≤ 2 * k := by
  rw [fm_length]
  exact (Dg.len_le_iff (by omega) _ _).2 (by rwa [show DB = 256 ^ 2 from rfl, ← Nat.pow_mul] at h)

theorem news1 {w : World} {cs : List UInt8} {v : Value} (h : (cs.map fun c => Value.int .u8 (c.toNat : Nat)) = [v]) :
    ∀ (j : Nat) (u : Value), (cs.map fun c => Value.int .u8 (c.toNat : Nat))[j]? = some u → (w.alloc (.cells #[v] 5)).cell? ((⟨w.heap.size, 0, none⟩ : Addr).add j) = some u := by
  rw [h]; exact new_cells w #[v] 5

theorem Buf.form0 {w : World} {B : Nat} {v : Value} {l : List UInt8} (h : Buf w B v l) : ∃ bo cap, v = .slice bo l.length cap := by
  obtain ⟨h1, ⟨h2, h3⟩ | ⟨g, cap, cur, hv, r⟩⟩ := h
  · exact ⟨none, 0, by rw [h2, h3]⟩
  · exact ⟨_, _, hv⟩

set_option maxRecDepth 100000 in
set_option maxHeartbeats 1600000 in
theorem rform_any (ao : Option Addr) (n c v : Nat) (w : World) (ha : RN w ao n c v) (hn : n ≤ 10000000) :
    Calls Tryz.prog 28 #[.slice ao n c] w fun e w' => e = .returned (.string ⟨(fm v).toArray⟩) ∧ Below w.heap.size w w' := by
  have hv : v < DB ^ n := ha.lt
  have HV := Lib.hid hv; clear hv
  go_enter Tryz.func28, Tryz.ntmps28
  go_wp2_with fail
  have hbuf1 : Buf (w.alloc (.cells #[] 5)) w.heap.size (.slice (some ⟨w.heap.size, 0, none⟩) 0 0) [] :=
    ⟨rfl, Or.inr ⟨w.heap.size, 0, #[], rfl, Nat.le_refl _, by simpa using heap_alloc_new w (.cells #[] 5), Nat.le_refl _, by decide, rfl, rfl⟩⟩
  have hb1 : Below w.heap.size w (w.alloc (.cells #[] 5)) := (Below.refl _ _).alloc (Nat.le_refl _) _
  have hv0 : fm (v / DB ^ n) = [] := by rw [Nat.div_eq_of_lt HV.out, fm_zero]
  have HV0 := Lib.hid hv0; clear hv0
  go_loopw [3, 4] (fun bv iv wr => ∃ (m : Nat) (bo : Option Addr) (cap : Nat) (l : List UInt8), m ≤ n ∧ iv = .int .i64 ((m : Int) - 1) ∧ Hid (l = fm (v / DB ^ m)) ∧ bv = .slice bo l.length cap ∧ Buf wr w.heap.size (.slice bo l.length cap) l ∧ Below w.heap.size w wr) (fun _ iv _ => (intOf iv + 1).toNat)
  case atStart => exact ⟨n, _, _, [], Nat.le_refl _, rfl, HV0.out.symm, rfl, hbuf1, hb1⟩
  case round =>
    obtain ⟨m, bo, cap, l, hm, rfl, hl, rfl, hbuf, hbel⟩ := hrel
    clear hbuf1 hb1
    have hsz := hbel.size
    by_cases h0 : 0 < m
    · obtain ⟨k, rfl⟩ : ∃ k, m = k + 1 := ⟨m - 1, by omega⟩
      have hca : wr.cell? ⟨blk ao, off ao + k, none⟩ = some (.int .u64 (Dg.dg DB v k : Nat)) := (ha.rd.below hbel (Nat.le_refl _)).cell _ (by omega)
      have hsa := ha.rd.sh
      obtain ⟨d, hd⟩ : ∃ d, d = Dg.dg DB v k := ⟨_, rfl⟩
      have hold : w.cell? ⟨blk ao, off ao + k, none⟩ = some (.int .u64 (d : Nat)) := by rw [hd]; exact ha.rd.cell _ (by omega)
      have hblt : blk ao < w.heap.size := ha.rd.lt (j := k) (by omega)
      rw [← hd] at hca
      have HOLD := Lib.hid hold; clear hold
      have hdl : d < 65536 := by rw [hd]; exact Dg.dg_lt DBpos _ _
      obtain ⟨q, hq⟩ : ∃ q, q = v / DB ^ (k + 1) := ⟨_, rfl⟩
      have hqd : v / DB ^ k = 65536 * q + d := by
        rw [hq, hd]; unfold Dg.dg
        rw [Nat.pow_succ, ← Nat.div_div_eq_div_mul, DB_eq]
        exact (Nat.div_add_mod _ _).symm
      have hlq : l = fm q := by rw [hl.out, hq]
      have hll : l.length ≤ 2 * n := by
        rw [hlq]; refine fm_len_le (Nat.lt_of_le_of_lt ?_ HV.out)
        rw [hq]; exact Nat.div_le_self _ _
      have htop : q = 0 → 0 < d := fun h => by
        have h1 : v < DB ^ (k + 1) := by
          rcases Nat.lt_or_ge v (DB ^ (k + 1)) with h2 | h2
          · exact h2
          · have := Nat.div_pos h2 (Nat.pow_pos DBpos); omega
        have h2 := ha.le h1
        have h3 : n = k + 1 := by omega
        have h4 := Dg.dg_top DB2 (v := v) ((Dg.len_pos_iff DB2 v).1 (by rw [← ha.len]; omega))
        rw [← ha.len, h3] at h4
        rw [hd]; simpa using h4
      have hl0 : 0 < l.length ↔ 0 < q := by rw [hlq, fm_length]; exact Dg.len_pos_iff (by omega) q
      have HQD := Lib.hid hqd; have HLQ := Lib.hid hlq; have HTOP := Lib.hid htop; have HL0 := Lib.hid hl0
      clear hd hq hqd hlq htop hl0 hl
      by_cases hcase : 0 < q ∨ 255 < d
      · have hfm := fm_two hdl hcase
        have HFM := Lib.hid hfm; clear hfm
        obtain ⟨c1, hc1⟩ : ∃ c : List UInt8, c = [UInt8.ofNat (d / 256)] := ⟨_, rfl⟩
        obtain ⟨c2, hc2⟩ : ∃ c : List UInt8, c = [UInt8.ofNat (d % 256)] := ⟨_, rfl⟩
        have hv1 : (c1.map fun c => Value.int .u8 (c.toNat : Nat)) = [Value.int .u8 ((d : Int) / 256)] := by
          rw [hc1]; simp only [List.map_cons, List.map_nil]; rw [toNat_ofNat8 _ (by omega)]; simp
        have hv2 : (c2.map fun c => Value.int .u8 (c.toNat : Nat)) = [Value.int .u8 ((d : Int) % 256)] := by
          rw [hc2]; simp only [List.map_cons, List.map_nil]; rw [toNat_ofNat8 _ (by omega)]; simp
        have hn1 : c1.length = 1 := by rw [hc1]; rfl
        have hn2 : c2.length = 1 := by rw [hc2]; rfl
        have hcc : l ++ c1 ++ c2 = fm (v / DB ^ k) := by rw [HQD.out, HFM.out, hc1, hc2, HLQ.out, List.append_assoc]; rfl
        have HV1 := Lib.hid hv1; have HV2 := Lib.hid hv2; have HN1 := Lib.hid hn1; have HN2 := Lib.hid hn2; have HCC := Lib.hid hcc
        clear hc1 hc2 hv1 hv2 hn1 hn2 hcc
        by_cases hlp : 0 < l.length
        all_goals
          try have hgt : 255 < d := by have := HL0.out; omega
          clear hcase
          have hl2 : (l ++ c1).length + 1 ≤ 140737488355328 := by rw [List.length_append, HN1.out]; omega
          go_wp2_with (at_builtin; first
            | (refine wpList_append_buf _ rfl (.tmp 23) (.tmp 30) _ rfl Tryz.underlying46 w.heap.size _ l rfl (hbuf.below ((Below.refl _ _).alloc (Nat.le_refl _) _)) ⟨wr.heap.size, 0, none⟩ 1 1 c1 rfl HN1.out (news1 HV1.out) (by omega) (by simp; omega) w (hbel.alloc (by omega) _) ?_; intro v2 w2 hbuf2 hbel2 _; have hca2 := (hbel2.cell (p := ⟨blk ao, off ao + k, none⟩) hblt).trans HOLD.out; have hsz2 := hbel2.size)
            | (refine wpList_append_buf _ rfl (.tmp 32) (.tmp 39) _ rfl Tryz.underlying46 w.heap.size _ (l ++ c1) rfl (hbuf2.below ((Below.refl _ _).alloc (Nat.le_refl _) _)) ⟨w2.heap.size, 0, none⟩ 1 1 c2 rfl HN2.out (news1 HV2.out) hl2 (by simp; omega) w (hbel2.alloc (by omega) _) ?_; intro v3 w3 hbuf3 hbel3 _))
          obtain ⟨bo3, cap3, rfl⟩ := hbuf3.form0
          go_roundw
          case rel => exact ⟨k, bo3, cap3, _, by omega, by go_num, HCC.out, rfl, hbuf3, hbel3⟩
          case measure => simp [intOf]
      · have hq0 : q = 0 := by omega
        have hd0 : 0 < d := HTOP.out hq0
        have hd2 : ¬ 255 < d := by omega
        obtain ⟨c1, hc1⟩ : ∃ c : List UInt8, c = [UInt8.ofNat (d % 256)] := ⟨_, rfl⟩
        have hv1 : (c1.map fun c => Value.int .u8 (c.toNat : Nat)) = [Value.int .u8 ((d : Int) % 256)] := by
          rw [hc1]; simp only [List.map_cons, List.map_nil]; rw [toNat_ofNat8 _ (by omega)]; simp
        have hn1 : c1.length = 1 := by rw [hc1]; rfl
        have hl0 : ¬ 0 < l.length := by have := HL0.out; omega
        have hcc : l ++ c1 = fm (v / DB ^ k) := by
          have hln : l = [] := List.eq_nil_of_length_eq_zero (by omega)
          rw [HQD.out, hq0, Nat.mul_zero, Nat.zero_add, fm_one hd0 (by omega), hc1, hln]; rfl
        have HV1 := Lib.hid hv1; have HN1 := Lib.hid hn1; have HCC := Lib.hid hcc
        clear hc1 hv1 hn1 hcc hcase hq0
        go_wp2_with (at_builtin; refine wpList_append_buf _ rfl (.tmp 32) (.tmp 39) _ rfl Tryz.underlying46 w.heap.size _ l rfl (hbuf.below ((Below.refl _ _).alloc (Nat.le_refl _) _)) ⟨wr.heap.size, 0, none⟩ 1 1 c1 rfl HN1.out (news1 HV1.out) (by omega) (by simp; omega) w (hbel.alloc (by omega) _) ?_; intro v2 w2 hbuf2 hbel2 _)
        obtain ⟨bo3, cap3, rfl⟩ := hbuf2.form0
        go_roundw
        case rel => exact ⟨k, bo3, cap3, _, by omega, by go_num, HCC.out, rfl, hbuf2, hbel2⟩
        case measure => simp [intOf]
    · obtain rfl : m = 0 := by omega
      have hcv := run_string_buf hbuf
      have hfin : l = fm v := by rw [hl.out, Nat.pow_zero, Nat.div_one]
      have HFIN := Lib.hid hfin; clear hfin
      go_wp2_with fail
      go_ret
      exact ⟨by rw [HFIN.out]; rfl, hbel⟩
end Go.Proofs.YtjkjlbchbbpmaaaGreatDoor
/- The reference's Times: the walk. -/
namespace Go.Proofs.YtjkjlbchbbpmaaaGreatDoor
open Go.RowKit

/-- One inner round of a product: X is what stands in the row, S what has been added to it. -/
theorem mul_stepB {B X S S' i cr x y nw : Nat} (hB : 0 < B) (hS' : S' = S + x * y * B ^ i) (hcr : S / B ^ i = X / B ^ i + cr) (hnw : nw = cr + (Dg.dg B X i + x * y)) :
    nw % B = Dg.dg B S' i ∧ S' / B ^ (i + 1) = X / B ^ (i + 1) + nw / B ∧ ∀ j, j < i → Dg.dg B S' j = Dg.dg B S j := by
  have hp : 0 < B ^ i := Nat.pow_pos hB
  have e1 : S' / B ^ i = X / B ^ i + cr + x * y := by
    rw [hS', Nat.mul_comm (x * y), Nat.add_mul_div_left _ _ hp, hcr]
  have e2 : X / B ^ i = B * (X / B ^ (i + 1)) + Dg.dg B X i := by
    unfold Dg.dg
    rw [Nat.pow_succ, ← Nat.div_div_eq_div_mul]
    exact (Nat.div_add_mod _ _).symm
  have e3 : S' / B ^ i = nw + B * (X / B ^ (i + 1)) := by rw [e1, hnw]; omega
  refine ⟨?_, ?_, fun j hj => ?_⟩
  · show _ = S' / B ^ i % B
    rw [e3, Nat.add_mul_mod_self_left]
  · have e5 : S' / B ^ (i + 1) = S' / B ^ i / B := by rw [Nat.pow_succ, Nat.div_div_eq_div_mul]
    rw [e5, e3, Nat.add_mul_div_left _ _ hB]; omega
  · rw [hS']
    unfold Dg.dg
    obtain ⟨d, rfl⟩ : ∃ d, i = j + 1 + d := ⟨i - (j + 1), by omega⟩
    have e4 : x * y * B ^ (j + 1 + d) = B ^ j * (B * (x * y * B ^ d)) := by
      rw [Nat.pow_add, Nat.pow_succ]
      simp only [Nat.mul_comm, Nat.mul_left_comm, Nat.mul_assoc]
    rw [e4, Nat.add_mul_div_left _ _ (Nat.pow_pos hB), Nat.add_mul_mod_self_left]

set_option maxRecDepth 100000 in
set_option maxHeartbeats 1600000 in
theorem rtimes_any (ao bo : Option Addr) (n c m d a b : Nat) (w : World) (ha : RN w ao n c a) (hb : RN w bo m d b) (hn : n ≤ 10000000) (hm : m ≤ 10000000) :
    Calls Tryz.prog 59 #[.slice ao n c, .slice bo m d] w (RetRN w (a * b)) := by
  have ha0 : a < DB ^ n := ha.lt
  have hb0 : b < DB ^ m := hb.lt
  have HA0 := Lib.hid ha0; have HB0 := Lib.hid hb0
  clear ha0 hb0
  go_enter Tryz.func59, Tryz.ntmps59
  go_wp2_with (refine wpList_make_row _ rfl (.tmp 14) (.tmp 14) _ rfl 51 .u64 8 Tryz.underlying48 info64 .i64 .i64 _ _ (n + m + 1) rfl rfl (by omega) (by omega) (by omega) (by omega) ?_; intro g w1 hg hown1 hb1)
  have hown2 : Own w1 .u64 51 g (n + m + 1) (Dg.dg DB (a % DB ^ 0 * b)) := hown1.congr fun j _ => by simp [Nat.mod_one, Dg.dg_zero]
  clear hown1
  go_loopw [6] (fun i wr => ∃ k : Nat, k ≤ n ∧ i = .int .i64 k ∧ Own wr .u64 51 g (n + m + 1) (Dg.dg DB (a % DB ^ k * b)) ∧ Below w.heap.size w wr) (fun i _ => n - (intOf i).toNat)
  case atStart => exact ⟨0, Nat.zero_le _, rfl, hown2, hb1⟩
  case round =>
    obtain ⟨i, hi, rfl, hown, hbel⟩ := hrel
    clear hown2
    by_cases hin : i < n
    · obtain ⟨x, hx⟩ : ∃ x, x = Dg.dg DB a i := ⟨_, rfl⟩
      have hxl : x < 65536 := by rw [hx]; exact Dg.dg_lt DBpos a i
      have HX := Lib.hid hx; clear hx
      have hsa := ha.rd.sh
      obtain ⟨X, hX⟩ : ∃ X, X = a % DB ^ i * b := ⟨_, rfl⟩
      rw [← hX] at hown
      have HXX := Lib.hid hX; clear hX
      go_wp2_with fail
      obtain ⟨wo, rfl⟩ : ∃ wo : World, wo = wr := ⟨_, rfl⟩
      go_loopw [7, 8] (fun cv i2 wr => ∃ k cr : Nat, k ≤ m ∧ i2 = .int .i64 k ∧ cv = .int .u64 cr ∧ cr < DB ∧ Hid ((X + x * (b % DB ^ k) * DB ^ i) / DB ^ (i + k) = X / DB ^ (i + k) + cr) ∧ Own wr .u64 51 g (n + m + 1) (fun j => if j < i + k then Dg.dg DB (X + x * (b % DB ^ k) * DB ^ i) j else Dg.dg DB X j) ∧ Below w.heap.size w wr) (fun _ i2 _ => m - (intOf i2).toNat)
      case atStart => exact ⟨0, 0, Nat.zero_le _, rfl, rfl, DBpos, by simp [Nat.mod_one, Hid], hown.congr fun j _ => by simp [Nat.mod_one], hbel⟩
      case round =>
        obtain ⟨k, cr, hk, rfl, rfl, hcr, hcq, hown, hbel⟩ := hrel
        have hcr' : cr < 65536 := hcr
        clear hcr
        by_cases hkm : k < m
        · have hca : wr.cell? ⟨blk ao, off ao + i, none⟩ = some (.int .u64 (x : Nat)) := by rw [HX.out]; exact (ha.rd.below hbel (Nat.le_refl _)).cell i hin
          have hcb : wr.cell? ⟨blk bo, off bo + k, none⟩ = some (.int .u64 (Dg.dg DB b k : Nat)) := (hb.rd.below hbel (Nat.le_refl _)).cell k hkm
          have hsb := hb.rd.sh
          obtain ⟨y, hy⟩ : ∃ y, y = Dg.dg DB b k := ⟨_, rfl⟩
          rw [← hy] at hcb
          have hyl : y < 65536 := by rw [hy]; exact Dg.dg_lt DBpos b k
          have HY := Lib.hid hy; clear hy
          have hco : wr.cell? ⟨g, i + k, none⟩ = some (.int .u64 (Dg.dg DB X (i + k) : Nat)) := by simpa using hown.cell (i + k) (by omega)
          obtain ⟨z, hz⟩ : ∃ z, z = Dg.dg DB X (i + k) := ⟨_, rfl⟩
          rw [← hz] at hco
          have hzl : z < 65536 := by rw [hz]; exact Dg.dg_lt DBpos X _
          have HZ := Lib.hid hz; clear hz
          have hfr := hown.frozen (i + k)
          have hxy1 : x * y ≤ 65535 * 65535 := Nat.mul_le_mul (by omega) (by omega)
          have hxy : (x : Int) * (y : Int) ≤ 4294836225 := by
            have h2 : ((x * y : Nat) : Int) = (x : Int) * (y : Int) := Int.natCast_mul _ _
            omega
          have hxy0 : 0 ≤ (x : Int) * (y : Int) := by
            have h2 : ((x * y : Nat) : Int) = (x : Int) * (y : Int) := Int.natCast_mul _ _
            omega
          go_wp2_with fail
          go_quiet (fail)
          go_wp2_with fail
          obtain ⟨nw, hnw⟩ : ∃ nw, nw = cr + (z + x * y) := ⟨_, rfl⟩
          have hnwi : ((cr : Int) + ((z : Int) + (x : Int) * (y : Int))) = (nw : Nat) := by rw [hnw]; simp
          have hS' : X + x * (b % DB ^ (k + 1)) * DB ^ i = X + x * (b % DB ^ k) * DB ^ i + x * y * DB ^ (i + k) := by
            rw [Dg.mod_succ, ← HY.out, Nat.mul_add, Nat.add_mul, Nat.pow_add]
            have : x * (DB ^ k * y) * DB ^ i = x * y * (DB ^ i * DB ^ k) := by simp only [Nat.mul_comm, Nat.mul_left_comm, Nat.mul_assoc]
            omega
          have R := mul_stepB (i := i + k) DBpos hS' hcq.out (hnw.trans (by rw [HZ.out]))
          have hnl : nw / DB < DB := by
            rw [DB_eq]; omega
          go_roundw
          case rel => exact ⟨k + 1, nw / DB, by omega, by go_num, by rw [hnwi]; rfl, hnl, R.2.1, own_set_int (hown.drewN _) (s := nw % DB) (by rw [hnwi]; rfl) (by rw [if_pos (by omega)]; exact R.1) (fun j hj hne => by
            by_cases h1 : j < i + k
            · rw [if_pos h1, if_pos (by omega)]; exact (R.2.2 j h1).symm
            · rw [if_neg h1, if_neg (by omega)]), (below_drawn hbel _).setCell hg _⟩
          case measure => simp [intOf]; omega
        · obtain rfl : k = m := by omega
          have hS : X + x * (b % DB ^ k) * DB ^ i = a % DB ^ (i + 1) * b := by
            rw [Nat.mod_eq_of_lt HB0.out, Dg.mod_succ, ← HX.out, Nat.add_mul, ← HXX.out]
            have : x * b * DB ^ i = DB ^ i * x * b := by simp only [Nat.mul_comm, Nat.mul_assoc]
            omega
          have hXlt : X < DB ^ (i + k) := by
            rw [HXX.out, Nat.pow_add]
            exact Nat.mul_lt_mul'' (Nat.mod_lt _ (Nat.pow_pos DBpos)) HB0.out
          have hSlt : a % DB ^ (i + 1) * b < DB ^ (i + 1 + k) := by
            rw [Nat.pow_add DB (i + 1) k]
            exact Nat.mul_lt_mul'' (Nat.mod_lt _ (Nat.pow_pos DBpos)) HB0.out
          have hcrd : cr = Dg.dg DB (a % DB ^ (i + 1) * b) (i + k) := by
            have h1 := hcq.out
            rw [hS, Nat.div_eq_of_lt hXlt, Nat.zero_add] at h1
            unfold Dg.dg
            rw [h1, Nat.mod_eq_of_lt (by rw [DB_eq]; exact hcr')]
          have hco : wr.cell? ⟨g, i + k, none⟩ = some (.int .u64 (0 : Nat)) := by
            have h := hown.cell (i + k) (by omega)
            rw [if_neg (by omega), Dg.dg_of_lt_le DBpos hXlt (Nat.le_refl _)] at h
            exact h
          have hfr := hown.frozen (i + k)
          have HS := Lib.hid hS; have HXL := Lib.hid hXlt; have HSL := Lib.hid hSlt; have HCR := Lib.hid hcrd
          clear hS hXlt hSlt hcrd
          go_wp2_with fail
          go_roundw
          case rel => exact ⟨i + 1, by omega, by go_num, own_set_int hown (s := cr) (by simp) HCR.out (fun j hj hne => by
            rw [HS.out]
            by_cases h1 : j < i + k
            · rw [if_pos h1]
            · rw [if_neg h1, Dg.dg_of_lt_le DBpos HXL.out (by omega), Dg.dg_of_lt_le DBpos HSL.out (by omega)]), hbel.setCell hg _⟩
          case measure => simp [intOf]; omega
    · obtain rfl : i = n := by omega
      have hlt : a * b < DB ^ (i + m + 1) := Nat.lt_of_lt_of_le (by rw [Nat.pow_add]; exact Nat.mul_lt_mul'' HA0.out HB0.out) (Nat.pow_le_pow_right DBpos (Nat.le_succ (i + m)))
      have hrd : Rd wr .u64 (some ⟨g, 0, none⟩) (i + m + 1) (i + m + 1) (Dg.dg DB (a * b)) := by
        have h := hown.rd; rw [Nat.mod_eq_of_lt HA0.out] at h; exact h
      have HLT := Lib.hid hlt; clear hlt
      go_wp2_with (go_at_call 53; refine (rtrim_num _ _ _ _ _ hrd HLT.out).mono ?_; rintro e w' ⟨k, rfl, hnum, rfl⟩)
      go_ret
      exact ⟨_, _, _, rfl, hnum, hbel⟩
end Go.Proofs.YtjkjlbchbbpmaaaGreatDoor
/- The reference's Of: the walk. -/
namespace Go.Proofs.YtjkjlbchbbpmaaaGreatDoor
open Go.RowKit

/-- One round of reading. -/
theorem of_step {T c i d x : Nat} (hT : T < 256 ^ i) (hc : c < 256) (hd : d = Dg.dg DB T (i / 2)) (hx : x = if i % 2 = 1 then c * 256 else c) :
    d + x < 65536 ∧ ∀ j, Dg.dg DB (T + c * 256 ^ i) j = if j = i / 2 then d + x else Dg.dg DB T j := by
  have hDB : DB = 256 ^ 2 := rfl
  have e1 : 256 ^ i = DB ^ (i / 2) * 256 ^ (i % 2) := by rw [hDB, ← Nat.pow_mul, ← Nat.pow_add, Nat.div_add_mod]
  have hp : 0 < DB ^ (i / 2) := Nat.pow_pos DBpos
  have hdl : T / DB ^ (i / 2) < 256 ^ (i % 2) := by rw [Nat.div_lt_iff_lt_mul hp, Nat.mul_comm, ← e1]; exact hT
  have hd2 : d ≤ T / DB ^ (i / 2) := by rw [hd]; unfold Dg.dg; exact Nat.mod_le _ _
  have hcx : c * 256 ^ i = x * DB ^ (i / 2) := by
    rw [e1, hx]
    rcases Nat.mod_two_eq_zero_or_one i with h | h
    · rw [h, if_neg (by omega), Nat.pow_zero, Nat.mul_one]
    · rw [h, if_pos rfl, Nat.pow_one]; simp only [Nat.mul_comm, Nat.mul_left_comm]
  have hlt : d + x < 65536 := by
    rw [hx]
    rcases Nat.mod_two_eq_zero_or_one i with h | h
    · rw [h, Nat.pow_zero] at hdl; rw [if_neg (by omega)]; omega
    · rw [h, Nat.pow_one] at hdl; rw [if_pos h]; omega
  refine ⟨hlt, fun j => ?_⟩
  rw [hcx, dg_add_at DBpos (by rw [← hd]; exact hlt), ← hd]

set_option maxRecDepth 100000 in
set_option maxHeartbeats 800000 in
theorem of_any (s : ByteArray) (w : World) (hs : s.size ≤ 10000000) :
    Calls Tryz.prog 27 #[.string s] w (RetRN w (bv s.data.toList)) := by
  go_enter Tryz.func27, Tryz.ntmps27
  go_wp2_with (refine wpList_make_row _ rfl (.tmp 9) (.tmp 9) _ rfl 51 .u64 8 Tryz.underlying48 info64 .i64 .i64 _ _ (s.size / 2 + 1) rfl rfl (by omega) (by omega) (by omega) (by omega) ?_; intro g w1 hg hown1 hb1)
  have hown2 : Own w1 .u64 51 g (s.size / 2 + 1) (Dg.dg DB (tailv s 0)) := hown1.congr fun j _ => by rw [tailv_zero, Dg.dg_zero]
  clear hown1
  go_loopw [4] (fun i wr => ∃ k : Nat, k ≤ s.size ∧ i = .int .i64 k ∧ Own wr .u64 51 g (s.size / 2 + 1) (Dg.dg DB (tailv s k)) ∧ Below w.heap.size w wr) (fun i _ => s.size - (intOf i).toNat)
  case atStart => exact ⟨0, Nat.zero_le _, rfl, hown2, hb1⟩
  case round =>
    obtain ⟨i, hi, rfl, hown, hbel⟩ := hrel
    clear hown2
    by_cases hin : i < s.size
    · have hco : wr.cell? ⟨g, i / 2, none⟩ = some (.int .u64 (Dg.dg DB (tailv s i) (i / 2) : Nat)) := hown.cell (i / 2) (by omega)
      obtain ⟨d, hd⟩ : ∃ d, d = Dg.dg DB (tailv s i) (i / 2) := ⟨_, rfl⟩
      rw [← hd] at hco
      have hdl : d < 65536 := by rw [hd]; exact Dg.dg_lt DBpos _ _
      have HD := Lib.hid hd; clear hd
      have hf := hown.frozen (i / 2)
      have hk : s.size - 1 - i < s.size := by omega
      obtain ⟨c, hc⟩ : ∃ c, c = (s[s.size - 1 - i]'hk).toNat := ⟨_, rfl⟩
      have hcl : c < 256 := by rw [hc]; exact UInt8.toNat_lt _
      have hix : ∀ W : World, (Instr.index 9 (.string s) (.int .i64 ((s.size : Int) - 1 - (i : Int)))).run Tryz.prog W = .ok (.int .u8 (c : Nat)) W := fun W => by
        have e : ((s.size : Int) - 1 - (i : Int)).toNat = s.size - 1 - i := by omega
        have e0 : (i : Int) ≤ (s.size : Int) - 1 := by omega
        simp [Instr.index, asIntOf, run_underlying Tryz.underlying9, e, e0, hc, getElem?_pos s (s.size - 1 - i) hk]
      have HC := Lib.hid hc; clear hc
      obtain ⟨x, hx⟩ : ∃ x, x = if i % 2 = 1 then c * 256 else c := ⟨_, rfl⟩
      have R := of_step (tailv_lt s i hi) hcl HD.out hx
      have hT : tailv s (i + 1) = tailv s i + c * 256 ^ i := by rw [HC.out]; exact tailv_succ s i hin
      rw [← hT] at R
      have hdx := R.1
      have HR := Lib.hid R.2; clear R hT
      rcases Nat.mod_two_eq_zero_or_one i with h2 | h2
      · have hxc : c = x := by rw [hx, if_neg (by omega)]
        have ht : (((i : Int) % 2) == 1) = false := by rw [beq_eq_false_iff_ne]; omega
        have HXC := Lib.hid hxc
        clear h2 hx hxc
        go_wp2_with fail
        go_roundw
        case rel => exact ⟨i + 1, by omega, by go_num, own_set_int hown (s := d + c) (by simp) (by rw [HR.out, if_pos rfl, HXC.out]) (fun j _ hj => by rw [HR.out, if_neg hj]), hbel.setCell hg _⟩
        case measure => simp [intOf]; omega
      · have hxc : c * 256 = x := by rw [hx, if_pos h2]
        have ht : (((i : Int) % 2) == 1) = true := by rw [beq_iff_eq]; omega
        have HXC := Lib.hid hxc
        clear h2 hx hxc
        go_wp2_with fail
        go_roundw
        case rel => exact ⟨i + 1, by omega, by go_num, own_set_int hown (s := d + c * 256) (by simp) (by rw [HR.out, if_pos rfl, HXC.out]) (fun j _ hj => by rw [HR.out, if_neg hj]), hbel.setCell hg _⟩
        case measure => simp [intOf]; omega
    · obtain rfl : i = s.size := by omega
      have hrd := hown.rd
      rw [tailv_all] at hrd
      have hlt : bv s.data.toList < DB ^ (s.size / 2 + 1) := by
        refine Nat.lt_of_lt_of_le (bv_lt _) ?_
        have e : s.data.toList.length = s.size := by simp
        rw [e, show DB = 256 ^ 2 from rfl, ← Nat.pow_mul]
        exact Nat.pow_le_pow_right (by omega) (by omega)
      have HLT := Lib.hid hlt; clear hlt
      go_wp2_with (go_at_call 53; refine (rtrim_num _ _ _ _ _ hrd HLT.out).mono ?_; rintro e w' ⟨k, rfl, hnum, rfl⟩)
      go_ret
      exact ⟨_, _, _, rfl, hnum, hbel⟩
end Go.Proofs.YtjkjlbchbbpmaaaGreatDoor
/- The reference's Cmp, digit, Bit, Bits: the walks. -/
namespace Go.Proofs.YtjkjlbchbbpmaaaGreatDoor
open Go.RowKit

set_option maxRecDepth 100000 in
theorem rcmp_any (ao bo : Option Addr) (n c m d a b : Nat) (w : World) (ha : RN w ao n c a) (hb : RN w bo m d b) :
    Calls Tryz.prog 31 #[.slice ao n c, .slice bo m d] w fun e w' => e = .returned (.int .i64 (cmpN a b)) ∧ ∃ q, w' = w.drewN q := by
  have hn := Nat.le_trans ha.rd.le ha.rd.cm
  have hm := Nat.le_trans hb.rd.le hb.rd.cm
  by_cases hnm : n < m
  · have hr : cmpN a b = -1 := cmpN_lt (Dg.lt_of_len DB2 (by rw [← ha.len, ← hb.len]; exact hnm))
    have HR := Lib.hid hr; clear hr
    go_enter Tryz.func31, Tryz.ntmps31
    go_wp2
    go_ret
    exact ⟨ret_int (by rw [HR.out]), 0, rfl⟩
  · by_cases hmn : m < n
    · have hr : cmpN a b = 1 := cmpN_gt (Dg.lt_of_len DB2 (by rw [← ha.len, ← hb.len]; exact hmn))
      have HR := Lib.hid hr; clear hr
      go_enter Tryz.func31, Tryz.ntmps31
      go_wp2
      go_ret
      exact ⟨ret_int (by rw [HR.out]), 0, rfl⟩
    · obtain rfl : n = m := by omega
      have hla := ha.lt
      have hlb := hb.lt
      have HLA := Lib.hid hla; clear hla
      have HLB := Lib.hid hlb; clear hlb
      clear hnm hmn
      go_enter Tryz.func31, Tryz.ntmps31
      go_wp2
      go_loopw [5] (fun i wr => ∃ (x : Int) (q : Nat), -1 ≤ x ∧ x < n ∧ i = .int .i64 x ∧ wr = w.drewN q ∧ ∀ j : Nat, x < j → j < n → Dg.dg DB a j = Dg.dg DB b j) (fun i _ => (intOf i + 1).toNat)
      case atStart => exact ⟨_, 0, by omega, by omega, rfl, rfl, fun j h1 h2 => absurd h1 (by omega)⟩
      case round =>
        obtain ⟨x, q, hx1, hx2, rfl, rfl, he⟩ := hrel
        have HE := Lib.hid he; clear he
        by_cases h0 : x < 0
        · go_wp2
          go_ret
          have hab : a = b := Dg.ext n HLA.out HLB.out fun j hj => HE.out j (by omega) hj
          exact ⟨ret_int (by rw [hab, cmpN_eq]), q, rfl⟩
        · obtain ⟨i, rfl⟩ := Int.eq_ofNat_of_zero_le (by omega : 0 ≤ x)
          have hca := ha.rd.cell i (by omega)
          have hcb := hb.rd.cell i (by omega)
          have hsa := ha.rd.sh
          have hsb := hb.rd.sh
          have hi : (i : Int) < n := hx2
          go_wp2
          go_quiet (fail)
          go_wp2
          · have hlt : Dg.dg DB a i < Dg.dg DB b i := by assumption
            go_ret
            have h1 : a < b := Dg.lt_of_dg (n := n) (i := i) DBpos HLA.out HLB.out (by omega) (fun j h1 h2 => HE.out j (by omega) h2) hlt
            exact ⟨ret_int (by rw [cmpN_lt h1]), drawn2 _ _ _⟩
          · have hge : ¬ Dg.dg DB a i < Dg.dg DB b i := by assumption
            go_quiet (fail)
            go_wp2
            · have hlt : Dg.dg DB b i < Dg.dg DB a i := by assumption
              go_ret
              have h1 : b < a := Dg.lt_of_dg (n := n) (i := i) DBpos HLB.out HLA.out (by omega) (fun j h1 h2 => (HE.out j (by omega) h2).symm) hlt
              exact ⟨ret_int (by rw [cmpN_gt h1]), drawn3 _ _ _ _⟩
            · have hgt : ¬ Dg.dg DB b i < Dg.dg DB a i := by assumption
              go_roundw
              case rel =>
                refine ⟨_, _, by omega, by omega, rfl, rfl, fun j h1 h2 => ?_⟩
                by_cases e : j = i
                · rw [e]; omega
                · exact HE.out j (by omega) h2
              case measure => simp [intOf]

theorem digit_any (ao : Option Addr) (n c v i : Nat) (w : World) (ha : RN w ao n c v) (_hi : i ≤ 4000000000000000000) :
    Calls Tryz.prog 54 #[.slice ao n c, .int .i64 i] w fun e w' => e = .returned (.int .u64 (Dg.dg DB v i : Nat)) ∧ w = w' := by
  have hn := Nat.le_trans ha.rd.le ha.rd.cm
  by_cases hin : i < n
  · have hca := ha.rd.cell i hin
    have hsa := ha.rd.sh
    obtain ⟨x, hx⟩ : ∃ x, x = Dg.dg DB v i := ⟨_, rfl⟩
    rw [← hx] at hca ⊢
    clear hx
    go_enter Tryz.func54, Tryz.ntmps54
    go_wp2
    go_ret
    exact ⟨rfl, rfl⟩
  · have hz : Dg.dg DB v i = 0 := Dg.dg_of_lt_le DBpos ha.lt (by omega)
    rw [hz]
    clear hz
    go_enter Tryz.func54, Tryz.ntmps54
    go_wp2
    go_ret
    exact ⟨rfl, rfl⟩

theorem bit_dg (v k : Nat) : Dg.dg DB v (k / 16) / 2 ^ (k % 16) % 2 = Dg.dg 2 v k := by
  unfold Dg.dg
  have e1 : DB ^ (k / 16) = 2 ^ (16 * (k / 16)) := by rw [show DB = 2 ^ 16 from rfl, ← Nat.pow_mul]
  have e2 : v / 2 ^ k = v / DB ^ (k / 16) / 2 ^ (k % 16) := by
    rw [e1, Nat.div_div_eq_div_mul, ← Nat.pow_add, Nat.div_add_mod]
  rw [e2]
  generalize v / DB ^ (k / 16) = y
  have h : k % 16 < 16 := Nat.mod_lt _ (by omega)
  generalize k % 16 = r at *
  obtain ⟨t, ht⟩ : ∃ t, t + 1 + r = 16 := ⟨15 - r, by omega⟩
  have e3 : DB = 2 ^ r * 2 ^ (t + 1) := by rw [← Nat.pow_add, show r + (t + 1) = 16 from by omega]; rfl
  rw [e3, Nat.mod_mul_right_div_self, Nat.mod_mod_of_dvd _ (by rw [Nat.pow_succ]; exact Nat.dvd_mul_left _ _)]

theorem and_one_u64 (x : Nat) (h : x < 18446744073709551616) : bits BinOp.and IntKind.u64 (x : Int) 1 = ((x % 2 : Nat) : Int) := by
  have := u64_and_nat x 1 h (by omega)
  rw [nat_mask1] at this
  exact this

set_option maxRecDepth 100000 in
theorem bit_any (ao : Option Addr) (n c v k : Nat) (w : World) (ha : RN w ao n c v) (hk : k ≤ 4000000000000000000) :
    Calls Tryz.prog 29 #[.slice ao n c, .int .i64 k] w fun e w' => e = .returned (.int .u64 (Dg.dg 2 v k : Nat)) ∧ w = w' := by
  have hd : Dg.dg DB v (k / 16) < 65536 := Dg.dg_lt DBpos _ _
  have hb := bit_dg v k
  obtain ⟨x, hx⟩ : ∃ x, x = Dg.dg DB v (k / 16) := ⟨_, rfl⟩
  rw [← hx] at hd hb
  have HX := Lib.hid hx; have HB := Lib.hid hb; clear hx hb
  go_enter Tryz.func29, Tryz.ntmps29
  go_wp2_with fail
  refine (digit_any ao n c v (k / 16) _ ha (by omega)).mono ?_
  rintro e w' ⟨rfl, rfl⟩
  rw [← HX.out]
  go_wp2_with fail
  go_ret
  refine ⟨ret_int ?_, rfl⟩
  have e : ((x : Int) / 2 ^ (k % 16)) = ((x / 2 ^ (k % 16) : Nat) : Int) := by simp
  rw [e, and_one_u64 _ (Nat.lt_of_le_of_lt (Nat.div_le_self _ _) (by omega)), HB.out]

set_option maxRecDepth 100000 in
theorem bits_any (ao : Option Addr) (n c v : Nat) (w : World) (ha : RN w ao n c v) (hn : n ≤ 100000000) :
    Calls Tryz.prog 30 #[.slice ao n c] w fun e w' => e = .returned (.int .i64 (Dg.len 2 v : Nat)) ∧ w = w' := by
  have hv : v < 2 ^ (16 * n) := by
    have h := ha.lt
    rwa [show DB = 2 ^ 16 from rfl, ← Nat.pow_mul] at h
  have ht := tl_dgB (B := 2) (by omega) v (16 * n) hv
  have HT := Lib.hid ht; clear ht hv
  go_enter Tryz.func30, Tryz.ntmps30
  go_wp2_with fail
  go_loopw [3] (fun x wr => ∃ m : Nat, m ≤ 16 * n ∧ x = .int .i64 m ∧ tl (Dg.dg 2 v) m = tl (Dg.dg 2 v) (16 * n) ∧ wr = w) (fun x _ => (intOf x).toNat)
  case atStart => exact ⟨16 * n, Nat.le_refl _, by go_num, rfl, rfl⟩
  case round =>
    obtain ⟨m, hm, rfl, htl, rfl⟩ := hrel
    have HTL := Lib.hid htl; clear htl
    by_cases h0 : 0 < m
    · obtain ⟨k, rfl⟩ : ∃ k, m = k + 1 := ⟨m - 1, by omega⟩
      have hbl : Dg.dg 2 v k < 2 := Dg.dg_lt (by omega) _ _
      obtain ⟨x, hx⟩ : ∃ x, x = Dg.dg 2 v k := ⟨_, rfl⟩
      rw [← hx] at hbl
      have HX := Lib.hid hx; clear hx
      by_cases hz : x = 0
      · have hzb : ((x : Int) == 0) = true := by rw [beq_iff_eq]; omega
        have HZ := Lib.hid hz; clear hz
        go_wp2_with (go_at_call 29; refine (bit_any ao n c v k _ ha (by omega)).mono ?_; rintro e w' ⟨rfl, rfl⟩; rw [← HX.out])
        go_roundw
        case rel => exact ⟨k, by omega, by go_num, by rw [← HTL.out, tl, if_pos (by rw [← HX.out]; exact HZ.out)], by trivial⟩
        case measure => simp [intOf]
      · have hzb : ((x : Int) == 0) = false := by rw [beq_eq_false_iff_ne]; omega
        have HZ := Lib.hid hz; clear hz
        go_wp2_with (go_at_call 29; refine (bit_any ao n c v k _ ha (by omega)).mono ?_; rintro e w' ⟨rfl, rfl⟩; rw [← HX.out])
        go_ret
        exact ⟨ret_int (by rw [← HT.out, ← HTL.out, tl, if_neg (by rw [← HX.out]; exact HZ.out)]; rfl), by trivial⟩
    · obtain rfl : m = 0 := by omega
      go_wp2_with fail
      go_ret
      exact ⟨ret_int (by rw [← HT.out, ← HTL.out]; rfl), by trivial⟩
end Go.Proofs.YtjkjlbchbbpmaaaGreatDoor
/- The reference's Divide: the walk. -/
namespace Go.Proofs.YtjkjlbchbbpmaaaGreatDoor
open Go.RowKit

/-- The carry of a doubling into place i. -/
def dc (B R x i : Nat) : Nat := (2 * (R % B ^ i) + x) / B ^ i
theorem dc_zero (B R x : Nat) : dc B R x 0 = x := by simp [dc, Nat.mod_one]
theorem dc_le {B : Nat} (hB : 0 < B) (R x i : Nat) (hx : x ≤ 1) : dc B R x i ≤ 1 := by
  unfold dc
  have hp : 0 < B ^ i := Nat.pow_pos hB
  have h1 := Nat.mod_lt R hp
  have : (2 * (R % B ^ i) + x) / B ^ i < 2 := by rw [Nat.div_lt_iff_lt_mul hp]; omega
  omega
theorem dc_step {B : Nat} (hB : 0 < B) (R x i : Nat) :
    Dg.dg B (2 * R + x) i = (2 * Dg.dg B R i + dc B R x i) % B ∧ dc B R x (i + 1) = (2 * Dg.dg B R i + dc B R x i) / B := by
  have hp : 0 < B ^ i := Nat.pow_pos hB
  constructor
  · have e1 := Nat.mod_add_div R (B ^ i)
    have e : 2 * R + x = (2 * (R % B ^ i) + x) + B ^ i * (2 * (R / B ^ i)) := by rw [Nat.mul_left_comm]; omega
    show (2 * R + x) / B ^ i % B = _
    rw [e, Nat.add_mul_div_left _ _ hp]
    show (dc B R x i + 2 * (R / B ^ i)) % B = (2 * (R / B ^ i % B) + dc B R x i) % B
    rw [Nat.add_comm, Nat.add_mod, Nat.mul_mod, Nat.add_mod (2 * (R / B ^ i % B)), Nat.mul_mod 2 (R / B ^ i % B), Nat.mod_mod]
  · have e : 2 * (R % B ^ (i + 1)) + x = (2 * (R % B ^ i) + x) + B ^ i * (2 * Dg.dg B R i) := by
      rw [Dg.mod_succ, Nat.mul_left_comm]; omega
    show (2 * (R % B ^ (i + 1)) + x) / B ^ (i + 1) = _
    rw [e, Nat.pow_succ, ← Nat.div_div_eq_div_mul, Nat.add_mul_div_left _ _ hp, Nat.add_comm]
    rfl

/-- One binary digit more. -/
theorem div_bit (a b t : Nat) (hb : 0 < b) {R Q T : Nat} (hR : R = a / 2 ^ (t + 1) % b) (hQ : Q = a / 2 ^ (t + 1) / b * 2 ^ (t + 1)) (hT : T = 2 * R + Dg.dg 2 a t) :
    T < 2 * b ∧ (T < b → a / 2 ^ t / b * 2 ^ t = Q ∧ a / 2 ^ t % b = T) ∧ (b ≤ T → a / 2 ^ t / b * 2 ^ t = Q + 2 ^ t ∧ a / 2 ^ t % b = T - b) := by
  have hbl : Dg.dg 2 a t < 2 := Dg.dg_lt (by omega) _ _
  have e0 : a / 2 ^ t = 2 * (a / 2 ^ (t + 1)) + Dg.dg 2 a t := by
    unfold Dg.dg
    rw [Nat.pow_succ, ← Nat.div_div_eq_div_mul]
    exact (Nat.div_add_mod _ _).symm
  have e1 := Nat.div_add_mod (a / 2 ^ (t + 1)) b
  have hRl := Nat.mod_lt (a / 2 ^ (t + 1)) hb
  rw [← hR] at e1 hRl
  have e2 : a / 2 ^ t = b * (2 * (a / 2 ^ (t + 1) / b)) + T := by
    rw [e0, hT, Nat.mul_left_comm]; omega
  refine ⟨by omega, fun h => ⟨?_, ?_⟩, fun h => ⟨?_, ?_⟩⟩
  · rw [e2, Nat.mul_add_div hb, Nat.div_eq_of_lt h, hQ, Nat.pow_succ]
    simp only [Nat.add_zero, Nat.mul_comm, Nat.mul_left_comm, Nat.mul_assoc]
  · rw [e2, Nat.mul_add_mod, Nat.mod_eq_of_lt h]
  · have e3 : T / b = 1 := by rw [Nat.div_eq_sub_div hb h, Nat.div_eq_of_lt (by omega)]
    rw [e2, Nat.mul_add_div hb, e3, hQ, Nat.pow_succ, Nat.add_mul, Nat.one_mul]
    congr 1
    simp only [Nat.mul_comm, Nat.mul_left_comm, Nat.mul_assoc]
  · rw [e2, Nat.mul_add_mod, Nat.mod_eq_sub_mod h, Nat.mod_eq_of_lt (by omega)]

/-- The quotient's digit, raised. -/
theorem quo_bit (Q t : Nat) (hQ : Q % 2 ^ (t + 1) = 0) : Dg.dg DB Q (t / 16) + 2 ^ (t % 16) < 65536 ∧ 2 ^ (t % 16) * DB ^ (t / 16) = 2 ^ t := by
  have e1 : DB ^ (t / 16) = 2 ^ (16 * (t / 16)) := by rw [show DB = 2 ^ 16 from rfl, ← Nat.pow_mul]
  have e2 : 2 ^ (t % 16) * DB ^ (t / 16) = 2 ^ t := by rw [e1, ← Nat.pow_add, Nat.mod_add_div]
  refine ⟨?_, e2⟩
  obtain ⟨u, hu⟩ := Nat.dvd_of_mod_eq_zero hQ
  have e3 : 2 ^ (t + 1) = 2 ^ (t % 16 + 1) * DB ^ (t / 16) := by rw [Nat.pow_succ, ← e2, Nat.pow_succ]; simp only [Nat.mul_comm, Nat.mul_left_comm]
  have hp : 0 < DB ^ (t / 16) := Nat.pow_pos DBpos
  have hr : t % 16 < 16 := Nat.mod_lt _ (by omega)
  obtain ⟨s, hs⟩ : ∃ s, t % 16 + 1 + s = 16 := ⟨15 - t % 16, by omega⟩
  have e4 : (65536 : Nat) = 2 ^ (t % 16 + 1) * 2 ^ s := by rw [← Nat.pow_add, hs]
  have e5 : Dg.dg DB Q (t / 16) = 2 ^ (t % 16 + 1) * (u % 2 ^ s) := by
    unfold Dg.dg
    rw [hu, e3, show 2 ^ (t % 16 + 1) * DB ^ (t / 16) * u = DB ^ (t / 16) * (2 ^ (t % 16 + 1) * u) from by simp only [Nat.mul_comm, Nat.mul_left_comm], Nat.mul_div_cancel_left _ hp, DB_eq, e4, Nat.mul_mod_mul_left]
  have h6 : u % 2 ^ s + 1 ≤ 2 ^ s := Nat.mod_lt _ (Nat.pow_pos (by omega))
  have h7 : 2 ^ (t % 16 + 1) * (u % 2 ^ s) + 2 ^ (t % 16 + 1) ≤ 2 ^ (t % 16 + 1) * 2 ^ s := by rw [← Nat.mul_succ]; exact Nat.mul_le_mul_left _ h6
  have h8 : 2 ^ (t % 16) < 2 ^ (t % 16 + 1) := Nat.pow_lt_pow_right (by omega) (Nat.lt_succ_self _)
  rw [e5]
  omega

theorem drawn_eq (w : World) (a b : Nat) : (w.drewN a).drewN b = w.drewN (a + b) := by simp

theorem shl_val (z s : Nat) (h : z + 2 ^ s < 65536) : IntKind.u64.wrap ((z : Int) + IntKind.u64.wrap (2 ^ s)) = ((z + 2 ^ s : Nat) : Int) := by
  have e : ((2 : Int) ^ s) = ((2 ^ s : Nat) : Int) := by simp
  rw [e, IntKind.wrap_u64, IntKind.wrap_u64]
  generalize 2 ^ s = y at *
  omega

/-- Two results: a quotient and what is left. -/
def RetRDiv (w : World) (x y : Nat) (e : Ending) (w' : World) : Prop :=
  ∃ qo qn qc ro rn rc, e = .returned (.tuple #[.slice qo qn qc, .slice ro rn rc]) ∧ RN w' qo qn qc x ∧ RN w' ro rn rc y ∧ Below w.heap.size w w'

set_option maxRecDepth 100000 in
set_option maxHeartbeats 3200000 in
theorem rdiv_any (ao bo : Option Addr) (n c m d a b : Nat) (w : World) (ha : RN w ao n c a) (hb : RN w bo m d b) (hb0 : 0 < b) (hn : n ≤ 10000000) (hm : m ≤ 10000000) :
    Calls Tryz.prog 98 #[.slice ao n c, .slice bo m d] w (RetRDiv w (a / b) (a % b)) := by
  have hal : a < DB ^ n := ha.lt
  have hbl : b < DB ^ m := hb.lt
  obtain ⟨M, hM⟩ : ∃ M, M = m + 1 := ⟨_, rfl⟩
  have hb2 : 2 * b ≤ DB ^ M := by
    rw [hM, Nat.pow_succ, Nat.mul_comm 2 b]
    exact Nat.mul_le_mul (Nat.le_of_lt hbl) DB2
  have hbm : b < DB ^ M := Nat.lt_of_lt_of_le hbl (Nat.pow_le_pow_right DBpos (by omega))
  have hM1 : M ≤ m + 1 := by omega
  have hM2 : m + 1 ≤ M := by omega
  have HBM := Lib.hid hbm
  clear hM hbm
  have ha2 : a < 2 ^ Dg.len 2 a := Dg.lt_pow_len (by omega) a
  have hl16 : Dg.len 2 a ≤ 16 * n := (Dg.len_le_iff (by omega) a (16 * n)).2 (by rwa [show DB = 2 ^ 16 from rfl, ← Nat.pow_mul] at hal)
  obtain ⟨L, hL⟩ : ∃ L, L = Dg.len 2 a := ⟨_, rfl⟩
  rw [← hL] at ha2 hl16
  have HL := Lib.hid hL; have HAL := Lib.hid hal; have HBL := Lib.hid hbl; have HB2 := Lib.hid hb2; have HA2 := Lib.hid ha2; have HB0 := Lib.hid hb0
  clear hL hal hbl hb2 ha2 hb0
  go_enter Tryz.func98, Tryz.ntmps98
  go_wp2_with (first
    | (refine wpList_make_row _ rfl (.tmp 18) (.tmp 18) _ rfl 51 .u64 8 Tryz.underlying48 info64 .i64 .i64 _ _ n rfl rfl (by omega) (by omega) (by omega) (by omega) ?_; intro gq w1 hgq hown1 hb1)
    | (refine wpList_make_row _ rfl (.tmp 22) (.tmp 22) _ rfl 51 .u64 8 Tryz.underlying48 info64 .i64 .i64 _ _ M rfl rfl (by omega) (by omega) (by omega) (by omega) ?_; intro gr w2 hgr hown2 hb2)
    | (go_at_call 30; refine (bits_any ao n c a _ ((ha.below hb1 (Nat.le_refl _)).below hb2 (Nat.le_refl _)) (by omega)).mono ?_; rintro e w' ⟨rfl, rfl⟩; rw [← HL.out]))
  have hgqr : gq ≠ gr := by have := hown1.lt; omega
  have hgr1 : w.heap.size ≤ gr := Nat.le_trans hb1.size hgr
  have hbel0 : Below w.heap.size w w2 := hb1.trans (hb2.mono hb1.size)
  have hq0 : Own w2 .u64 51 gq n (Dg.dg DB (a / 2 ^ L / b * 2 ^ L)) := (hown1.below hb2 (Nat.le_refl _)).congr fun j _ => by rw [Nat.div_eq_of_lt HA2.out, Nat.zero_div, Nat.zero_mul, Dg.dg_zero]
  have hr0 : Own w2 .u64 51 gr M (Dg.dg DB (a / 2 ^ L % b)) := hown2.congr fun j _ => by rw [Nat.div_eq_of_lt HA2.out, Nat.zero_mod, Dg.dg_zero]
  clear hown1 hown2 hb1 hb2
  go_loopw [8] (fun kv wr => ∃ k : Nat, k ≤ L ∧ kv = .int .i64 ((k : Int) - 1) ∧ Own wr .u64 51 gq n (Dg.dg DB (a / 2 ^ k / b * 2 ^ k)) ∧ Own wr .u64 51 gr M (Dg.dg DB (a / 2 ^ k % b)) ∧ Below w.heap.size w wr) (fun kv _ => (intOf kv + 1).toNat)
  case atStart => exact ⟨L, Nat.le_refl _, rfl, hq0, hr0, hbel0⟩
  case round =>
    obtain ⟨k, hk, rfl, hq, hr, hbel⟩ := hrel
    clear hq0 hr0 hbel0
    by_cases h0 : 0 < k
    · obtain ⟨t, rfl⟩ : ∃ t, k = t + 1 := ⟨k - 1, by omega⟩
      obtain ⟨R, hR⟩ : ∃ R, R = a / 2 ^ (t + 1) % b := ⟨_, rfl⟩
      obtain ⟨Q, hQ⟩ : ∃ Q, Q = a / 2 ^ (t + 1) / b * 2 ^ (t + 1) := ⟨_, rfl⟩
      obtain ⟨x, hx⟩ : ∃ x, x = Dg.dg 2 a t := ⟨_, rfl⟩
      obtain ⟨T, hT⟩ : ∃ T, T = 2 * R + x := ⟨_, rfl⟩
      have hxl : x < 2 := by rw [hx]; exact Dg.dg_lt (by omega) _ _
      have D := div_bit a b t HB0.out hR hQ (T := T) (by rw [hT, hx])
      have QB := quo_bit Q t (by rw [hQ]; exact Nat.mul_mod_left _ _)
      rw [← hR] at hr
      rw [← hQ] at hq
      have hTl : T < DB ^ M := Nat.lt_of_lt_of_le D.1 HB2.out
      have HX := Lib.hid hx; have HT := Lib.hid hT; have HD := Lib.hid D; have HQB := Lib.hid QB; have HTL := Lib.hid hTl
      clear hR hQ hx hT D QB hTl
      go_wp2_with (go_at_call 29; refine (bit_any ao n c a t _ (ha.below hbel (Nat.le_refl _)) (by omega)).mono ?_; rintro e w' ⟨rfl, rfl⟩; rw [← HX.out])
      obtain ⟨wo, rfl⟩ : ∃ wo : World, wo = wr := ⟨_, rfl⟩
      go_loopw [9, 10] (fun cv iv wr => ∃ i cr : Nat, i ≤ M ∧ iv = .int .i64 i ∧ cv = .int .u64 cr ∧ cr ≤ 1 ∧ Hid (cr = dc DB R x i) ∧ Own wr .u64 51 gr M (fun j => if j < i then Dg.dg DB T j else Dg.dg DB R j) ∧ Own wr .u64 51 gq n (Dg.dg DB Q) ∧ Below w.heap.size w wr) (fun _ iv _ => M - (intOf iv).toNat)
      case atStart => exact ⟨0, x, Nat.zero_le _, rfl, rfl, by omega, (dc_zero _ _ _).symm, hr.congr fun j _ => by simp, hq, hbel⟩
      case round =>
        obtain ⟨i, cr, hi, rfl, rfl, hcr1, hcr, hr, hq, hbel⟩ := hrel
        by_cases him : i < M
        · have hcl : wr.cell? ⟨gr, i, none⟩ = some (.int .u64 (Dg.dg DB R i : Nat)) := by have h := hr.cell i him; simpa using h
          obtain ⟨y, hy⟩ : ∃ y, y = Dg.dg DB R i := ⟨_, rfl⟩
          rw [← hy] at hcl
          have hyl : y < 65536 := by rw [hy]; exact Dg.dg_lt DBpos _ _
          have S := dc_step DBpos R x i
          rw [← hy, ← hcr.out, ← HT.out] at S
          have HS := Lib.hid S; clear hy S
          have hfr := hr.frozen i
          go_wp2_with fail
          go_roundw
          case rel => exact ⟨i + 1, (2 * y + cr) / DB, by omega, by go_num, by rw [DB_eq]; simp, by rw [DB_eq]; omega, HS.out.2.symm, own_set_int hr (s := (2 * y + cr) % DB) (by rw [DB_eq]; simp) (by rw [if_pos (by omega)]; exact HS.out.1.symm) (fun j hj hne => by
              by_cases h1 : j < i
              · rw [if_pos h1, if_pos (by omega)]
              · rw [if_neg h1, if_neg (by omega)]), hq.other _ hgqr, hbel.setCell hgr1 _⟩
          case measure => simp [intOf]; omega
        · obtain rfl : M = i := by omega
          have hrT : Own wr .u64 51 gr M (Dg.dg DB T) := hr.congr fun j hj => by rw [if_pos hj]
          clear hr
          go_wp2_with fail
          obtain ⟨wo2, rfl⟩ : ∃ wo2 : World, wo2 = wr := ⟨_, rfl⟩
          by_cases hTb : T < b
          · go_loopw [12, 13] (fun bv iv wr => ∃ y : Int, -1 ≤ y ∧ y < (M : Int) ∧ iv = .int .i64 y ∧ bv = .bool false ∧ Own wr .u64 51 gr M (Dg.dg DB T) ∧ Own wr .u64 51 gq n (Dg.dg DB Q) ∧ Below w.heap.size w wr ∧ Hid (∀ j : Nat, y < j → j < M → Dg.dg DB T j = Dg.dg DB b j)) (fun _ iv _ => (intOf iv + 1).toNat)
            case atStart => exact ⟨(M : Int) - 1, by omega, by omega, by go_num, rfl, hrT, hq, hbel, fun j h1 h2 => absurd h1 (by omega)⟩
            case round =>
              obtain ⟨y, hy1, hy2, rfl, rfl, hrT, hq, hbel, he⟩ := hrel
              by_cases hy0 : y < 0
              · exact absurd hTb (by
                  have : T = b := Dg.ext M HTL.out HBM.out fun j hj => he.out j (by omega) hj
                  omega)
              · obtain ⟨i, rfl⟩ := Int.eq_ofNat_of_zero_le (by omega : 0 ≤ y)
                have hcl : wr.cell? ⟨gr, i, none⟩ = some (.int .u64 (Dg.dg DB T i : Nat)) := hrT.cell i (by omega)
                obtain ⟨d1, hd1⟩ : ∃ d, d = Dg.dg DB T i := ⟨_, rfl⟩
                obtain ⟨d2, hd2⟩ : ∃ d, d = Dg.dg DB b i := ⟨_, rfl⟩
                rw [← hd1] at hcl
                have hle : d1 ≠ d2 → d1 < d2 := fun hne => by
                  rcases Nat.lt_or_gt_of_ne hne with h | h
                  · exact h
                  · exfalso
                    have := Dg.lt_of_dg (n := M) (i := i) DBpos HBM.out HTL.out (by omega) (fun j h1 h2 => (he.out j (by omega) h2).symm) (by rw [← hd1, ← hd2]; exact h)
                    omega
                have hi1 : (i : Int) < (M : Int) := by omega
                have hb' : RN wr bo m d b := hb.below hbel (Nat.le_refl _)
                have DIG : ∀ q, Calls Tryz.prog 54 #[.slice bo m d, .int .i64 i] (wr.drewN q) fun e w' => e = .returned (.int .u64 (d2 : Nat)) ∧ wr.drewN q = w' := fun q => by
                  rw [hd2]; exact digit_any _ _ _ _ _ _ (hb'.drewN _) (by omega)
                have DIG2 : ∀ p q, Calls Tryz.prog 54 #[.slice bo m d, .int .i64 i] (wr.drewN (p + q)) fun e w' => e = .returned (.int .u64 (d2 : Nat)) ∧ ∃ n, w' = wr.drewN (p + n) := fun p q => (DIG (p + q)).mono fun _ _ ⟨he, hw⟩ => ⟨he, q, hw.symm⟩
                have HDG := Lib.hid DIG; have HDG2 := Lib.hid DIG2
                have HD1 := Lib.hid hd1; have HD2 := Lib.hid hd2; have HLE := Lib.hid hle; clear hd1 hd2 hle DIG DIG2
                by_cases heq : d1 = d2
                · have hbq : ((d1 : Int) != (d2 : Int)) = false := by rw [bne_eq_false_iff_eq]; omega
                  have HEQ := Lib.hid heq; clear heq
                  go_wp2_with fail
                  go_quiet ((go_at_call 54; exact quiet_same (HDG.out _)))
                  go_wp2_with fail
                  go_roundw
                  case rel => exact ⟨_, by omega, by omega, rfl, rfl, hrT.drewN _, hq.drewN _, below_drawn hbel _, fun j h1 h2 => by
                    by_cases e : j = i
                    · rw [e, ← HD1.out, ← HD2.out]; exact HEQ.out
                    · exact he.out j (by omega) h2⟩
                  case measure => simp [intOf]
                · have hbq : ((d1 : Int) != (d2 : Int)) = true := by rw [bne_iff_ne]; omega
                  have hlt : d1 < d2 := HLE.out heq
                  clear heq
                  go_wp2_with fail
                  go_quiet ((go_at_call 54; exact quiet_same (HDG.out _)))
                  go_wp2_with fail
                  go_quiet ((go_at_call 54; exact HDG2.out _ _))
                  go_wp2_with fail
                  have D := HD.out.2.1 hTb
                  go_roundw
                  case rel => exact ⟨t, by omega, by go_num, (by rw [D.1]; exact hq.drewN _), (by rw [D.2]; exact hrT.drewN _), below_drawn hbel _⟩
                  case measure => simp [intOf]
          · go_loopw [12, 13] (fun bv iv wr => ∃ y : Int, -1 ≤ y ∧ y < (M : Int) ∧ iv = .int .i64 y ∧ bv = .bool false ∧ Own wr .u64 51 gr M (Dg.dg DB T) ∧ Own wr .u64 51 gq n (Dg.dg DB Q) ∧ Below w.heap.size w wr ∧ Hid (∀ j : Nat, y < j → j < M → Dg.dg DB T j = Dg.dg DB b j)) (fun _ iv _ => (intOf iv + 1).toNat)
            case atStart => exact ⟨(M : Int) - 1, by omega, by omega, by go_num, rfl, hrT, hq, hbel, fun j h1 h2 => absurd h1 (by omega)⟩
            case round =>
              obtain ⟨y, hy1, hy2, rfl, rfl, hrT, hq, hbel, he⟩ := hrel
              by_cases hy0 : y < 0
              · go_wp2_with fail
                go_loopw [14, 15] (fun cv iv wr => ∃ i br : Nat, i ≤ M ∧ iv = .int .i64 i ∧ cv = .int .u64 br ∧ br ≤ 1 ∧ Hid (br = Dg.bw DB T b i) ∧ Own wr .u64 51 gr M (fun j => if j < i then Dg.dg DB (T - b) j else Dg.dg DB T j) ∧ Own wr .u64 51 gq n (Dg.dg DB Q) ∧ Below w.heap.size w wr) (fun _ iv _ => M - (intOf iv).toNat)
                case atStart => exact ⟨0, 0, Nat.zero_le _, rfl, rfl, Nat.zero_le _, (Dg.bw_zero _ _ _).symm, Own.congr (by first | exact hrT | exact hrT.drewN _ | exact (hrT.drewN _).drewN _) (fun j _ => by simp), by first | exact hq | exact hq.drewN _ | exact (hq.drewN _).drewN _, by first | exact hbel | exact below_drawn hbel _ | exact below_drawn (below_drawn hbel _) _⟩
                case round =>
                  obtain ⟨i, br, hi, rfl, rfl, hbr1, hbr, hrT, hq, hbel⟩ := hrel
                  by_cases hiM : i < M
                  · have hcl : wr.cell? ⟨gr, i, none⟩ = some (.int .u64 (Dg.dg DB T i : Nat)) := by have h := hrT.cell i hiM; simpa using h
                    obtain ⟨d1, hd1⟩ : ∃ d, d = Dg.dg DB T i := ⟨_, rfl⟩
                    obtain ⟨d2, hd2⟩ : ∃ d, d = Dg.dg DB b i := ⟨_, rfl⟩
                    rw [← hd1] at hcl
                    have hl1 : d1 < 65536 := by rw [hd1]; exact Dg.dg_lt DBpos _ _
                    have hl2 : d2 < 65536 := by rw [hd2]; exact Dg.dg_lt DBpos _ _
                    have S1 := Dg.dg_sub DB T b i DBpos (by omega)
                    have S2 := Dg.sub_step DB T b i DBpos
                    rw [← hd1, ← hd2, ← hbr.out] at S1 S2
                    have hb' : RN wr bo m d b := hb.below hbel (Nat.le_refl _)
                    have DIG : ∀ q, Calls Tryz.prog 54 #[.slice bo m d, .int .i64 i] (wr.drewN q) fun e w' => e = .returned (.int .u64 (d2 : Nat)) ∧ wr.drewN q = w' := fun q => by
                      rw [hd2]; exact digit_any _ _ _ _ _ _ (hb'.drewN _) (by omega)
                    have HDG := Lib.hid DIG; have HS1 := Lib.hid S1; have HS2 := Lib.hid S2
                    have hfr := hrT.frozen i
                    clear hd1 hd2 DIG S1 S2
                    go_wp2_with fail
                    go_quiet ((go_at_call 54; exact quiet_same (HDG.out _)))
                    go_wp2_with fail
                    go_roundw
                    case rel =>
                      refine ⟨i + 1, if d1 < d2 + br then 1 else 0, by omega, by go_num, ?_, by split <;> omega, HS2.out.symm, own_set_int (hrT.drewN _) (s := (d1 + 65536 - d2 - br) % 65536) (by omega) (by rw [if_pos (by omega), HS1.out]; rfl) (fun j hj hne => by
                        by_cases h1 : j < i
                        · rw [if_pos h1, if_pos (by omega)]
                        · rw [if_neg h1, if_neg (by omega)]), (hq.drewN _).other _ hgqr, (below_drawn hbel _).setCell hgr1 _⟩
                      congr 1
                      split <;> omega
                    case measure => simp [intOf]; omega
                  · obtain rfl : M = i := by omega
                    have hrT2 : Own wr .u64 51 gr M (Dg.dg DB (T - b)) := hrT.congr fun j hj => by rw [if_pos hj]
                    have hcq : wr.cell? ⟨gq, t / 16, none⟩ = some (.int .u64 (Dg.dg DB Q (t / 16) : Nat)) := hq.cell _ (by omega)
                    obtain ⟨z, hz⟩ : ∃ z, z = Dg.dg DB Q (t / 16) := ⟨_, rfl⟩
                    rw [← hz] at hcq
                    have hzl := HQB.out.1
                    rw [← hz] at hzl
                    have HZL := Lib.hid hzl; have HZ := Lib.hid hz; clear hzl hz
                    have hfq := hq.frozen (t / 16)
                    have hti : t / 16 < n := by omega
                    go_wp2_with fail
                    go_region
                    go_wp2_with fail
                    have D := HD.out.2.2 (by omega)
                    have AA : ∀ j, Dg.dg DB (Q + 2 ^ t) j = if j = t / 16 then z + 2 ^ (t % 16) else Dg.dg DB Q j := fun j => by
                      have h := dg_add_at (B := DB) (V := Q) (k := t / 16) (x := 2 ^ (t % 16)) DBpos HQB.out.1 j
                      rw [HQB.out.2, ← HZ.out] at h
                      exact h
                    go_roundw
                    case rel =>
                      refine ⟨t, by omega, by go_num, ?_, ?_, (hbel.setCell (by omega) _).drew⟩
                      · rw [D.1]
                        exact (own_set_int hq (s := z + 2 ^ (t % 16)) (shl_val z _ HZL.out) (by rw [AA, if_pos rfl]) (fun j _ hj => by rw [AA, if_neg hj])).drew
                      · rw [D.2]
                        exact (hrT2.other _ hgqr.symm).drew
                    case measure => simp [intOf]
              · obtain ⟨i, rfl⟩ := Int.eq_ofNat_of_zero_le (by omega : 0 ≤ y)
                have hcl : wr.cell? ⟨gr, i, none⟩ = some (.int .u64 (Dg.dg DB T i : Nat)) := hrT.cell i (by omega)
                obtain ⟨d1, hd1⟩ : ∃ d, d = Dg.dg DB T i := ⟨_, rfl⟩
                obtain ⟨d2, hd2⟩ : ∃ d, d = Dg.dg DB b i := ⟨_, rfl⟩
                rw [← hd1] at hcl
                have hle : d1 ≠ d2 → ¬ d1 < d2 := fun hne h => by
                  have := Dg.lt_of_dg (n := M) (i := i) DBpos HTL.out HBM.out (by omega) (fun j h1 h2 => he.out j (by omega) h2) (by rw [← hd1, ← hd2]; exact h)
                  omega
                have hi1 : (i : Int) < (M : Int) := by omega
                have hb' : RN wr bo m d b := hb.below hbel (Nat.le_refl _)
                have DIG : ∀ q, Calls Tryz.prog 54 #[.slice bo m d, .int .i64 i] (wr.drewN q) fun e w' => e = .returned (.int .u64 (d2 : Nat)) ∧ wr.drewN q = w' := fun q => by
                  rw [hd2]; exact digit_any _ _ _ _ _ _ (hb'.drewN _) (by omega)
                have DIG2 : ∀ p q, Calls Tryz.prog 54 #[.slice bo m d, .int .i64 i] (wr.drewN (p + q)) fun e w' => e = .returned (.int .u64 (d2 : Nat)) ∧ ∃ n, w' = wr.drewN (p + n) := fun p q => (DIG (p + q)).mono fun _ _ ⟨he, hw⟩ => ⟨he, q, hw.symm⟩
                have HDG := Lib.hid DIG; have HDG2 := Lib.hid DIG2
                have HD1 := Lib.hid hd1; have HD2 := Lib.hid hd2; have HLE := Lib.hid hle; clear hd1 hd2 hle DIG DIG2
                by_cases heq : d1 = d2
                · have hbq : ((d1 : Int) != (d2 : Int)) = false := by rw [bne_eq_false_iff_eq]; omega
                  have HEQ := Lib.hid heq; clear heq
                  go_wp2_with fail
                  go_quiet ((go_at_call 54; exact quiet_same (HDG.out _)))
                  go_wp2_with fail
                  go_roundw
                  case rel => exact ⟨_, by omega, by omega, rfl, rfl, hrT.drewN _, hq.drewN _, below_drawn hbel _, fun j h1 h2 => by
                    by_cases e : j = i
                    · rw [e, ← HD1.out, ← HD2.out]; exact HEQ.out
                    · exact he.out j (by omega) h2⟩
                  case measure => simp [intOf]
                · have hbq : ((d1 : Int) != (d2 : Int)) = true := by rw [bne_iff_ne]; omega
                  have hlt : ¬ d1 < d2 := HLE.out heq
                  clear heq
                  go_wp2_with fail
                  go_quiet ((go_at_call 54; exact quiet_same (HDG.out _)))
                  go_wp2_with fail
                  go_quiet ((go_at_call 54; exact HDG2.out _ _))
                  go_wp2_with fail
                  go_loopw [14, 15] (fun cv iv wr => ∃ i br : Nat, i ≤ M ∧ iv = .int .i64 i ∧ cv = .int .u64 br ∧ br ≤ 1 ∧ Hid (br = Dg.bw DB T b i) ∧ Own wr .u64 51 gr M (fun j => if j < i then Dg.dg DB (T - b) j else Dg.dg DB T j) ∧ Own wr .u64 51 gq n (Dg.dg DB Q) ∧ Below w.heap.size w wr) (fun _ iv _ => M - (intOf iv).toNat)
                  case atStart => exact ⟨0, 0, Nat.zero_le _, rfl, rfl, Nat.zero_le _, (Dg.bw_zero _ _ _).symm, Own.congr (by first | exact hrT | exact hrT.drewN _ | exact (hrT.drewN _).drewN _) (fun j _ => by simp), by first | exact hq | exact hq.drewN _ | exact (hq.drewN _).drewN _, by first | exact hbel | exact below_drawn hbel _ | exact below_drawn (below_drawn hbel _) _⟩
                  case round =>
                    obtain ⟨i, br, hi, rfl, rfl, hbr1, hbr, hrT, hq, hbel⟩ := hrel
                    by_cases hiM : i < M
                    · have hcl : wr.cell? ⟨gr, i, none⟩ = some (.int .u64 (Dg.dg DB T i : Nat)) := by have h := hrT.cell i hiM; simpa using h
                      obtain ⟨d1, hd1⟩ : ∃ d, d = Dg.dg DB T i := ⟨_, rfl⟩
                      obtain ⟨d2, hd2⟩ : ∃ d, d = Dg.dg DB b i := ⟨_, rfl⟩
                      rw [← hd1] at hcl
                      have hl1 : d1 < 65536 := by rw [hd1]; exact Dg.dg_lt DBpos _ _
                      have hl2 : d2 < 65536 := by rw [hd2]; exact Dg.dg_lt DBpos _ _
                      have S1 := Dg.dg_sub DB T b i DBpos (by omega)
                      have S2 := Dg.sub_step DB T b i DBpos
                      rw [← hd1, ← hd2, ← hbr.out] at S1 S2
                      have hb' : RN wr bo m d b := hb.below hbel (Nat.le_refl _)
                      have DIG : ∀ q, Calls Tryz.prog 54 #[.slice bo m d, .int .i64 i] (wr.drewN q) fun e w' => e = .returned (.int .u64 (d2 : Nat)) ∧ wr.drewN q = w' := fun q => by
                        rw [hd2]; exact digit_any _ _ _ _ _ _ (hb'.drewN _) (by omega)
                      have HDG := Lib.hid DIG; have HS1 := Lib.hid S1; have HS2 := Lib.hid S2
                      have hfr := hrT.frozen i
                      clear hd1 hd2 DIG S1 S2
                      go_wp2_with fail
                      go_quiet ((go_at_call 54; exact quiet_same (HDG.out _)))
                      go_wp2_with fail
                      go_roundw
                      case rel =>
                        refine ⟨i + 1, if d1 < d2 + br then 1 else 0, by omega, by go_num, ?_, by split <;> omega, HS2.out.symm, own_set_int (hrT.drewN _) (s := (d1 + 65536 - d2 - br) % 65536) (by omega) (by rw [if_pos (by omega), HS1.out]; rfl) (fun j hj hne => by
                          by_cases h1 : j < i
                          · rw [if_pos h1, if_pos (by omega)]
                          · rw [if_neg h1, if_neg (by omega)]), (hq.drewN _).other _ hgqr, (below_drawn hbel _).setCell hgr1 _⟩
                        congr 1
                        split <;> omega
                      case measure => simp [intOf]; omega
                    · obtain rfl : M = i := by omega
                      have hrT2 : Own wr .u64 51 gr M (Dg.dg DB (T - b)) := hrT.congr fun j hj => by rw [if_pos hj]
                      have hcq : wr.cell? ⟨gq, t / 16, none⟩ = some (.int .u64 (Dg.dg DB Q (t / 16) : Nat)) := hq.cell _ (by omega)
                      obtain ⟨z, hz⟩ : ∃ z, z = Dg.dg DB Q (t / 16) := ⟨_, rfl⟩
                      rw [← hz] at hcq
                      have hzl := HQB.out.1
                      rw [← hz] at hzl
                      have HZL := Lib.hid hzl; have HZ := Lib.hid hz; clear hzl hz
                      have hfq := hq.frozen (t / 16)
                      have hti : t / 16 < n := by omega
                      go_wp2_with fail
                      go_region
                      go_wp2_with fail
                      have D := HD.out.2.2 (by omega)
                      have AA : ∀ j, Dg.dg DB (Q + 2 ^ t) j = if j = t / 16 then z + 2 ^ (t % 16) else Dg.dg DB Q j := fun j => by
                        have h := dg_add_at (B := DB) (V := Q) (k := t / 16) (x := 2 ^ (t % 16)) DBpos HQB.out.1 j
                        rw [HQB.out.2, ← HZ.out] at h
                        exact h
                      go_roundw
                      case rel =>
                        refine ⟨t, by omega, by go_num, ?_, ?_, (hbel.setCell (by omega) _).drew⟩
                        · rw [D.1]
                          exact (own_set_int hq (s := z + 2 ^ (t % 16)) (shl_val z _ HZL.out) (by rw [AA, if_pos rfl]) (fun j _ hj => by rw [AA, if_neg hj])).drew
                        · rw [D.2]
                          exact (hrT2.other _ hgqr.symm).drew
                      case measure => simp [intOf]
    · obtain rfl : k = 0 := by omega
      have hqr := hq.rd
      have hrr := hr.rd
      rw [Nat.pow_zero, Nat.div_one, Nat.mul_one] at hqr
      rw [Nat.pow_zero, Nat.div_one] at hrr
      have hql : a / b < DB ^ n := Nat.lt_of_le_of_lt (Nat.div_le_self _ _) HAL.out
      have hrl : a % b < DB ^ M := Nat.lt_trans (Nat.mod_lt _ HB0.out) HBM.out
      have HQL := Lib.hid hql; have HRL := Lib.hid hrl; clear hql hrl
      go_wp2_with fail
      refine (rtrim_num _ _ _ _ _ hqr HQL.out).mono ?_
      rintro e w' ⟨k1, rfl, hn1, rfl⟩
      go_wp2_with fail
      refine (rtrim_num _ _ _ _ _ hrr HRL.out).mono ?_
      rintro e w' ⟨k2, rfl, hn2, rfl⟩
      go_wp2_with fail
      go_ret2
      exact ⟨_, _, _, _, _, _, rfl, hn1, hn2, hbel⟩
end Go.Proofs.YtjkjlbchbbpmaaaGreatDoor
