/- The reference's Form: the walk. -/
import Derived.Test.YtbmhiejggkdnkaaGreatDoorRBase
namespace Go.Proofs.YtbmhiejggkdnkaaGreatDoor
open Go.RowKit

theorem fm_two {q d : Nat} (hd : d < 65536) (h : 0 < q ∨ 255 < d) : fm (65536 * q + d) = fm q ++ [UInt8.ofNat (d / 256), UInt8.ofNat (d % 256)] := by
  rw [fm_pos (by omega), fm_pos (v := (65536 * q + d) / 256) (by omega)]
  have e1 : (65536 * q + d) / 256 / 256 = q := by omega
  have e2 : (65536 * q + d) / 256 % 256 = d / 256 := by omega
  have e3 : (65536 * q + d) % 256 = d % 256 := by omega
  rw [e1, e2, e3, List.append_assoc]; rfl
theorem fm_one {d : Nat} (h0 : 0 < d) (h : d ≤ 255) : fm d = [UInt8.ofNat (d % 256)] := by
  rw [fm_pos h0, Nat.div_eq_of_lt (by omega), fm_zero]; rfl
theorem fm_len_le {v k : Nat} (h : v < DB ^ k) : (fm v).length ≤ 2 * k := by
  rw [fm_length]
  exact (Dg.len_le_iff (by omega) _ _).2 (by rwa [show DB = 256 ^ 2 from rfl, ← Nat.pow_mul] at h)

theorem news1 {w : World} {cs : List UInt8} {v : Value} (h : (cs.map fun c => Value.int .u8 (c.toNat : Nat)) = [v]) :
    ∀ (j : Nat) (u : Value), (cs.map fun c => Value.int .u8 (c.toNat : Nat))[j]? = some u → (w.alloc (.cells #[v] 5)).cell? ((⟨w.heap.size, 0, none⟩ : Addr).add j) = some u := by
  rw [h]; exact new_cells w #[v] 5

theorem Buf.form {w : World} {B : Nat} {v : Value} {l : List UInt8} (h : Buf w B v l) : ∃ bo cap, v = .slice bo l.length cap := by
  obtain ⟨h1, ⟨h2, h3⟩ | ⟨g, cap, cur, hv, r⟩⟩ := h
  · exact ⟨none, 0, by rw [h2, h3]⟩
  · exact ⟨_, _, hv⟩

set_option maxRecDepth 100000 in
set_option maxHeartbeats 1600000 in
theorem rform_any (ao : Option Addr) (n c v : Nat) (w : World) (ha : RN w ao n c v) (hn : n ≤ 10000000) :
    Calls Tryz.prog 12 #[.slice ao n c] w fun e w' => e = .returned (.string ⟨(fm v).toArray⟩) ∧ Below w.heap.size w w' := by
  have hv : v < DB ^ n := ha.lt
  have HV := Lib.hid hv; clear hv
  go_enter Tryz.func12, Tryz.ntmps12
  go_wp2_with fail
  have hbuf1 : Buf (w.alloc (.cells #[] 5)) w.heap.size (.slice (some ⟨w.heap.size, 0, none⟩) 0 0) [] :=
    ⟨rfl, Or.inr ⟨w.heap.size, 0, #[], rfl, Nat.le_refl _, by simpa using heap_alloc_new w (.cells #[] 5), Nat.le_refl _, by decide, rfl, rfl⟩⟩
  have hb1 : Below w.heap.size w (w.alloc (.cells #[] 5)) := (Below.refl _ _).alloc (Nat.le_refl _) _
  have hv0 : fm (v / DB ^ n) = [] := by rw [Nat.div_eq_of_lt HV.out, fm_zero]
  have HV0 := Lib.hid hv0; clear hv0
  go_loopw [3, 4] (fun bv iv wr => ∃ (m : Nat) (bo : Option Addr) (cap : Nat) (l : List UInt8), m ≤ n ∧ iv = .int .i64 ((m : Int) - 1) ∧ Hid (l = fm (v / DB ^ m)) ∧ bv = .slice bo l.length cap ∧ Buf wr w.heap.size (.slice bo l.length cap) l ∧ Below w.heap.size w wr) (fun _ iv _ => (intOf iv + 1).toNat)
  case atStart => exact ⟨n, _, _, [], Nat.le_refl _, rfl, HV0.out.symm, rfl, hbuf1, hb1⟩
  case round =>
    obtain ⟨m, bo, cap, l, hm, rfl, hl, rfl, hbuf, hbel⟩ := hrel
    clear hbuf1 hb1
    have hsz := hbel.size
    by_cases h0 : 0 < m
    · obtain ⟨k, rfl⟩ : ∃ k, m = k + 1 := ⟨m - 1, by omega⟩
      have hca : wr.cell? ⟨blk ao, off ao + k, none⟩ = some (.int .u64 (Dg.dg DB v k : Nat)) := (ha.rd.below hbel (Nat.le_refl _)).cell _ (by omega)
      have hsa := ha.rd.sh
      obtain ⟨d, hd⟩ : ∃ d, d = Dg.dg DB v k := ⟨_, rfl⟩
      have hold : w.cell? ⟨blk ao, off ao + k, none⟩ = some (.int .u64 (d : Nat)) := by rw [hd]; exact ha.rd.cell _ (by omega)
      have hblt : blk ao < w.heap.size := ha.rd.lt (j := k) (by omega)
      rw [← hd] at hca
      have HOLD := Lib.hid hold; clear hold
      have hdl : d < 65536 := by rw [hd]; exact Dg.dg_lt DBpos _ _
      obtain ⟨q, hq⟩ : ∃ q, q = v / DB ^ (k + 1) := ⟨_, rfl⟩
      have hqd : v / DB ^ k = 65536 * q + d := by
        rw [hq, hd]; unfold Dg.dg
        rw [Nat.pow_succ, ← Nat.div_div_eq_div_mul, DB_eq]
        exact (Nat.div_add_mod _ _).symm
      have hlq : l = fm q := by rw [hl.out, hq]
      have hll : l.length ≤ 2 * n := by
        rw [hlq]; refine fm_len_le (Nat.lt_of_le_of_lt ?_ HV.out)
        rw [hq]; exact Nat.div_le_self _ _
      have htop : q = 0 → 0 < d := fun h => by
        have h1 : v < DB ^ (k + 1) := by
          rcases Nat.lt_or_ge v (DB ^ (k + 1)) with h2 | h2
          · exact h2
          · have := Nat.div_pos h2 (Nat.pow_pos DBpos); omega
        have h2 := ha.le h1
        have h3 : n = k + 1 := by omega
        have h4 := Dg.dg_top DB2 (v := v) ((Dg.len_pos_iff DB2 v).1 (by rw [← ha.len]; omega))
        rw [← ha.len, h3] at h4
        rw [hd]; simpa using h4
      have hl0 : 0 < l.length ↔ 0 < q := by rw [hlq, fm_length]; exact Dg.len_pos_iff (by omega) q
      have HQD := Lib.hid hqd; have HLQ := Lib.hid hlq; have HTOP := Lib.hid htop; have HL0 := Lib.hid hl0
      clear hd hq hqd hlq htop hl0 hl
      by_cases hcase : 0 < q ∨ 255 < d
      · have hfm := fm_two hdl hcase
        have HFM := Lib.hid hfm; clear hfm
        obtain ⟨c1, hc1⟩ : ∃ c : List UInt8, c = [UInt8.ofNat (d / 256)] := ⟨_, rfl⟩
        obtain ⟨c2, hc2⟩ : ∃ c : List UInt8, c = [UInt8.ofNat (d % 256)] := ⟨_, rfl⟩
        have hv1 : (c1.map fun c => Value.int .u8 (c.toNat : Nat)) = [Value.int .u8 ((d : Int) / 256)] := by
          rw [hc1]; simp only [List.map_cons, List.map_nil]; rw [toNat_ofNat8 _ (by omega)]; simp
        have hv2 : (c2.map fun c => Value.int .u8 (c.toNat : Nat)) = [Value.int .u8 ((d : Int) % 256)] := by
          rw [hc2]; simp only [List.map_cons, List.map_nil]; rw [toNat_ofNat8 _ (by omega)]; simp
        have hn1 : c1.length = 1 := by rw [hc1]; rfl
        have hn2 : c2.length = 1 := by rw [hc2]; rfl
        have hcc : l ++ c1 ++ c2 = fm (v / DB ^ k) := by rw [HQD.out, HFM.out, hc1, hc2, HLQ.out, List.append_assoc]; rfl
        have HV1 := Lib.hid hv1; have HV2 := Lib.hid hv2; have HN1 := Lib.hid hn1; have HN2 := Lib.hid hn2; have HCC := Lib.hid hcc
        clear hc1 hc2 hv1 hv2 hn1 hn2 hcc
        by_cases hlp : 0 < l.length
        all_goals
          try have hgt : 255 < d := by have := HL0.out; omega
          clear hcase
          have hl2 : (l ++ c1).length + 1 ≤ 140737488355328 := by rw [List.length_append, HN1.out]; omega
          go_wp2_with (at_builtin; first
            | (refine wpList_append_buf _ rfl (.tmp 23) (.tmp 30) _ rfl Tryz.underlying59 w.heap.size _ l rfl (hbuf.below ((Below.refl _ _).alloc (Nat.le_refl _) _)) ⟨wr.heap.size, 0, none⟩ 1 1 c1 rfl HN1.out (news1 HV1.out) (by omega) (by simp; omega) w (hbel.alloc (by omega) _) ?_; intro v2 w2 hbuf2 hbel2 _; have hca2 := (hbel2.cell (p := ⟨blk ao, off ao + k, none⟩) hblt).trans HOLD.out; have hsz2 := hbel2.size)
            | (refine wpList_append_buf _ rfl (.tmp 32) (.tmp 39) _ rfl Tryz.underlying59 w.heap.size _ (l ++ c1) rfl (hbuf2.below ((Below.refl _ _).alloc (Nat.le_refl _) _)) ⟨w2.heap.size, 0, none⟩ 1 1 c2 rfl HN2.out (news1 HV2.out) hl2 (by simp; omega) w (hbel2.alloc (by omega) _) ?_; intro v3 w3 hbuf3 hbel3 _))
          obtain ⟨bo3, cap3, rfl⟩ := hbuf3.form
          go_roundw
          case rel => exact ⟨k, bo3, cap3, _, by omega, by go_num, HCC.out, rfl, hbuf3, hbel3⟩
          case measure => simp [intOf]
      · have hq0 : q = 0 := by omega
        have hd0 : 0 < d := HTOP.out hq0
        have hd2 : ¬ 255 < d := by omega
        obtain ⟨c1, hc1⟩ : ∃ c : List UInt8, c = [UInt8.ofNat (d % 256)] := ⟨_, rfl⟩
        have hv1 : (c1.map fun c => Value.int .u8 (c.toNat : Nat)) = [Value.int .u8 ((d : Int) % 256)] := by
          rw [hc1]; simp only [List.map_cons, List.map_nil]; rw [toNat_ofNat8 _ (by omega)]; simp
        have hn1 : c1.length = 1 := by rw [hc1]; rfl
        have hl0 : ¬ 0 < l.length := by have := HL0.out; omega
        have hcc : l ++ c1 = fm (v / DB ^ k) := by
          have hln : l = [] := List.eq_nil_of_length_eq_zero (by omega)
          rw [HQD.out, hq0, Nat.mul_zero, Nat.zero_add, fm_one hd0 (by omega), hc1, hln]; rfl
        have HV1 := Lib.hid hv1; have HN1 := Lib.hid hn1; have HCC := Lib.hid hcc
        clear hc1 hv1 hn1 hcc hcase hq0
        go_wp2_with (at_builtin; refine wpList_append_buf _ rfl (.tmp 32) (.tmp 39) _ rfl Tryz.underlying59 w.heap.size _ l rfl (hbuf.below ((Below.refl _ _).alloc (Nat.le_refl _) _)) ⟨wr.heap.size, 0, none⟩ 1 1 c1 rfl HN1.out (news1 HV1.out) (by omega) (by simp; omega) w (hbel.alloc (by omega) _) ?_; intro v2 w2 hbuf2 hbel2 _)
        obtain ⟨bo3, cap3, rfl⟩ := hbuf2.form
        go_roundw
        case rel => exact ⟨k, bo3, cap3, _, by omega, by go_num, HCC.out, rfl, hbuf2, hbel2⟩
        case measure => simp [intOf]
    · obtain rfl : m = 0 := by omega
      have hcv := run_string_buf hbuf
      have hfin : l = fm v := by rw [hl.out, Nat.pow_zero, Nat.div_one]
      have HFIN := Lib.hid hfin; clear hfin
      go_wp2_with fail
      go_ret
      exact ⟨by rw [HFIN.out]; rfl, hbel⟩
end Go.Proofs.YtbmhiejggkdnkaaGreatDoor
