/- TBlock TMask, in one text. -/
import Derived.Test.YtjkjlbchbbpmaaaGreatDoorZSBlock
import Derived.Test.YtjkjlbchbbpmaaaGreatDoorZR2Top
import Derived.Test.YtjkjlbchbbpmaaaGreatDoorZR0
import Derived.Test.YtjkjlbchbbpmaaaGreatDoorZQSteps
import Derived.Test.YtjkjlbchbbpmaaaGreatDoorZSMask
/- The reference's Block (layer 4): the walk. -/
namespace Go.Proofs.YtjkjlbchbbpmaaaGreatDoor
open Go.RowKit

set_option maxRecDepth 100000 in
theorem rsum_any (s : ByteArray) (w : World) (hs : s.size + 80 ≤ 140737488355328) :
    Calls Tryz.prog 37 #[.string s] w fun e w' => e = .returned (.string (sha s)) ∧ Below w.heap.size w w' := by
  obtain ⟨S, hS⟩ : ∃ S, S = sha s := ⟨_, rfl⟩
  have H1 := Lib.hid (fun w => r2sum_any s w hs)
  rw [← hS] at H1 ⊢
  clear hS
  go_enter Tryz.func37, Tryz.ntmps37
  go_wp2_with fail
  refine (H1.out _).mono ?_
  rintro e w1 ⟨rfl, hb1⟩
  go_wp2_with fail
  go_ret
  exact ⟨rfl, hb1⟩

set_option maxRecDepth 100000 in
set_option maxHeartbeats 3200000 in
theorem rblock_any (s : ByteArray) (n : Int) (w : World) (hs : s.size + 80 ≤ 140737488355328) :
    Calls Tryz.prog 15 #[.string s, .int .i64 n] w fun e w' => e = ret2 (BlockR s n).1 (BlockR s n).2 ∧ Below w.heap.size w w' := by
  by_cases h0 : n < 62
  · have hR : BlockR s n = ([], 42) := if_pos (Or.inl h0)
    have HR := Lib.hid hR; clear hR
    go_enter Tryz.func15, Tryz.ntmps15
    go_wp2
    go_ret2
    exact ⟨by rw [HR.out]; rfl, (Below.refl _ _).alloc (Nat.le_refl _) _⟩
  · by_cases h5 : 512 < n
    · have hR : BlockR s n = ([], 42) := if_pos (Or.inr h5)
      have HR := Lib.hid hR; clear hR
      go_enter Tryz.func15, Tryz.ntmps15
      go_wp2
      go_ret2
      exact ⟨by rw [HR.out]; rfl, (Below.refl _ _).alloc (Nat.le_refl _) _⟩
    · obtain ⟨k, rfl⟩ := Int.eq_ofNat_of_zero_le (by omega : 0 ≤ n)
      obtain ⟨d, hkd⟩ : ∃ d, k = d + 54 := ⟨k - 54, by omega⟩
      have hR : BlockR s (k : Int) = (blockL s k, 0) := by unfold BlockR; rw [if_neg (by omega)]; rfl
      have hk1 : k ≤ 512 := by omega
      have hk0 : 62 ≤ k := by omega
      obtain ⟨t, ht⟩ : ∃ t, t = sha s := ⟨_, rfl⟩
      have hts : t.size = 32 := by rw [ht]; rfl
      have hsum : ∀ w : World, Calls Tryz.prog 37 #[.string s] w fun e w' => e = .returned (.string t) ∧ Below w.heap.size w w' := fun w => by rw [ht]; exact rsum_any s w hs
      have hall : (ByteArray.mk ([0, 1] ++ List.replicate d 255 ++ [0] : List UInt8).toArray) ++ (ByteArray.mk rsInfo.toArray) ++ t = ⟨(blockL s k).toArray⟩ := by
        rw [ht, show sha s = ByteArray.mk (sha s).data.toList.toArray from by simp, str_append, str_append]
        unfold blockL
        rw [show k - 54 = d by omega]
        simp
      have hd : (k : Int) - 1 - 19 - 32 = ((d + 2 : Nat) : Int) := by omega
      obtain ⟨W1, hW1⟩ : ∃ W1, W1 = w.alloc (.cells (rsInfo.map fun c => Value.int .u8 (c.toNat : Nat)).toArray 5) := ⟨_, rfl⟩
      have hinf : Buf W1 w.heap.size (.slice (some ⟨w.heap.size, 0, none⟩) 19 19) rsInfo := by rw [hW1]; exact buf_new w rsInfo (by decide)
      have hB1 : Below w.heap.size w W1 := by rw [hW1]; exact (Below.refl _ _).alloc (Nat.le_refl _) _
      have hb0 : Buf (W1.alloc (.cells #[.int .u8 0, .int .u8 1] 5)) W1.heap.size (.slice (some ⟨W1.heap.size, 0, none⟩) 2 2) ([0, 1] ++ List.replicate 0 255) := buf_new W1 [0, 1] (by decide)
      have hs1 : W1.heap.size = w.heap.size + 1 := by rw [hW1]; simp
      have HALL := Lib.hid hall; have HR := Lib.hid hR; have HS := Lib.hid hsum; have HW1 := Lib.hid hW1; have HD := Lib.hid hd; have HTS := Lib.hid hts; have HS1 := Lib.hid hs1; have HK := Lib.hid hkd
      clear hall hR hsum ht hW1 hd hts h0 h5 hs1 hkd
      go_enter Tryz.func15, Tryz.ntmps15
      go_upto_region 5 with fail
      rw [show w.alloc (.cells #[.int .u8 48, .int .u8 49, .int .u8 48, .int .u8 13, .int .u8 6, .int .u8 9, .int .u8 96, .int .u8 134, .int .u8 72, .int .u8 1, .int .u8 101, .int .u8 3, .int .u8 4, .int .u8 2, .int .u8 1, .int .u8 5, .int .u8 0, .int .u8 4, .int .u8 32] 5) = W1 from HW1.out.symm, ← HS1.out]
      go_loopw [7] (fun bv wr => ∃ j : Nat, j ≤ d ∧ Buf wr W1.heap.size bv ([0, 1] ++ List.replicate j 255) ∧ Below W1.heap.size W1 wr) (fun bv _ => d + 2 - slen bv)
      case atStart => exact ⟨0, Nat.zero_le _, hb0, (Below.refl _ _).alloc (Nat.le_refl _) _⟩
      case round =>
        clear hb0
        obtain ⟨j, hj, hbuf, hbel⟩ := hrel
        have hlen : ([0, 1] ++ List.replicate j 255 : List UInt8).length = j + 2 := by simp
        obtain ⟨gb, cb, rfl, hcb⟩ := hbuf.form (by rw [hlen]; omega)
        obtain ⟨L, hL⟩ : ∃ L : List UInt8, L = [0, 1] ++ List.replicate j 255 := ⟨_, rfl⟩
        rw [← hL] at hlen hbuf hcb ⊢
        rw [hlen] at hcb ⊢
        have hbuf2 : Buf wr W1.heap.size (.slice (some ⟨gb, 0, none⟩) (j + 2) cb) L := by rw [← hlen]; exact hbuf
        have HL := Lib.hid hL; have HLN := Lib.hid hlen
        have hsz := hbel.size
        clear hbuf hL hlen
        have hdk : d ≤ 512 := by have := HK.out; omega
        by_cases hjd : j < d
        · have hd : (k : Int) - 1 - 19 - 32 = (d : Int) + 2 := by have := HK.out; omega
          have hlt : (j : Int) + 2 < (d : Int) + 2 := by omega
          obtain ⟨c1, hc1⟩ : ∃ c : List UInt8, c = [255] := ⟨_, rfl⟩
          have hv1 : (c1.map fun c => Value.int .u8 (c.toNat : Nat)) = [Value.int .u8 255] := by rw [hc1]; rfl
          have hn1 : c1.length = 1 := by rw [hc1]; rfl
          have hnx : L ++ c1 = [0, 1] ++ List.replicate (j + 1) 255 := by rw [HL.out, hc1, List.append_assoc, ← List.replicate_succ']
          have HV1 := Lib.hid hv1; have HN1 := Lib.hid hn1; have HNX := Lib.hid hnx
          clear hc1 hv1 hn1 hnx
          go_wp2_with (at_builtin; refine wpList_append_buf _ rfl (.tmp 25) (.tmp 26) _ rfl Tryz.underlying46 W1.heap.size _ L rfl (hbuf2.below ((Below.refl _ _).alloc (Nat.le_refl _) _)) ⟨wr.heap.size, 0, none⟩ 1 1 c1 rfl HN1.out (news1 HV1.out) (by rw [HLN.out]; omega) (by simp; omega) W1 (hbel.alloc hsz _) ?_; intro v2 w2 hbuf3 hbel3 _)
          go_roundw
          case rel => exact ⟨j + 1, by omega, by rw [← HNX.out]; exact hbuf3, hbel3⟩
          case measure =>
            obtain ⟨g', c', hv', _⟩ := hbuf3.form (by rw [List.length_append, HN1.out]; omega)
            rw [hv']
            show d + 2 - (L ++ c1).length < d + 2 - (j + 2)
            rw [List.length_append, HLN.out, HN1.out]; omega
        · have hd : (k : Int) - 1 - 19 - 32 = (d : Int) + 2 := by have := HK.out; omega
          have hlt : ¬ (j : Int) + 2 < (d : Int) + 2 := by omega
          obtain ⟨c1, hc1⟩ : ∃ c : List UInt8, c = [0] := ⟨_, rfl⟩
          have hv1 : (c1.map fun c => Value.int .u8 (c.toNat : Nat)) = [Value.int .u8 0] := by rw [hc1]; rfl
          have hn1 : c1.length = 1 := by rw [hc1]; rfl
          have hnx : L ++ c1 = [0, 1] ++ List.replicate d 255 ++ [0] := by rw [HL.out, hc1, show j = d by omega]
          have HV1 := Lib.hid hv1; have HN1 := Lib.hid hn1; have HNX := Lib.hid hnx
          clear hc1 hv1 hn1 hnx
          go_upto_region 8 with (at_builtin; refine wpList_append_buf _ rfl (.tmp 28) (.tmp 29) _ rfl Tryz.underlying46 W1.heap.size _ L rfl (hbuf2.below ((Below.refl _ _).alloc (Nat.le_refl _) _)) ⟨wr.heap.size, 0, none⟩ 1 1 c1 rfl HN1.out (news1 HV1.out) (by rw [HLN.out]; omega) (by simp; omega) W1 (hbel.alloc hsz _) ?_; intro v2 w2 hbuf3 hbel3 _)
          have hi2 := hinf.below hbel3
          have hR0 := Rws.start w2
          clear hd hlt hbuf2
          refine wp_region_soft 8 (by kernel_rfl) (by kernel_rfl) (by rfl) (by assumption) ?_
          refine s_move (by rfl) (stb_is v2) (by exact fun _ _ _ h => h) ?_
          refine s_conv (by rfl) (by exact fun _ _ _ h => h) (fun w hb => run_string_buf (hbuf3.below hb)) ?_
          refine s_move (by rfl) (stb_is (.slice (some ⟨w.heap.size, 0, none⟩) 19 19)) (by exact fun _ _ _ h => h) ?_
          refine s_conv (by rfl) (by exact fun _ _ _ h => h) (fun w hb => run_string_buf (hi2.below hb)) ?_
          refine s_cat (by rfl) (by exact fun _ _ _ h => h) (by exact fun _ _ _ h => h) (by rw [str_size, str_size, List.length_append, HLN.out, HN1.out]; show _ + 19 ≤ _; omega) ?_
          refine s_move (by rfl) (stb_is (.string s)) (by exact fun _ _ _ h => h) ?_
          refine s_call1 (by rfl) Tryz.func37 (by kernel_rfl) rfl (stb_is (.string t)) (A := Is (.string s)) (by exact fun _ _ _ h => h) (fun w v h => by obtain rfl : v = .string s := h; exact (HS.out w).mono fun e w' ⟨he, hb⟩ => ⟨_, he, rfl, hb⟩) ?_
          refine s_cat (by rfl) (by exact fun _ _ _ h => h) (by exact fun _ _ _ h => h) (by rw [ByteArray.size_append, str_size, str_size, List.length_append, HLN.out, HN1.out, HTS.out]; show _ + 19 + 32 ≤ _; omega) ?_
          intro w9 hR9 hb9 v31 h31 v32 h32 v33 h33 v34 h34 v35 h35 v36 h36 v37 h37 v38 h38
          simp only [softEnd, Act.put, List.setIfInBounds_toArray, List.set_cons_succ, List.set_cons_zero, List.drop_succ_cons, List.drop_zero]
          clear h31 h32 h33 h34 h35 h36 h37
          obtain rfl : v38 = _ := h38
          have hres := (hB1.trans (hbel3.mono hB1.size)).trans (hb9.mono (Nat.le_trans hB1.size hbel3.size))
          go_wp2_with fail
          go_ret2
          exact ⟨by rw [HR.out]; show Ending.returned (.tuple #[.string _, .int .i64 0]) = _; rw [HNX.out, HALL.out]; rfl, hres⟩
end Go.Proofs.YtjkjlbchbbpmaaaGreatDoor
/- The reference's mask (layer 4): the walks. -/
namespace Go.Proofs.YtjkjlbchbbpmaaaGreatDoor
open Go.RowKit

theorem run_conv648 (x : Nat) (hx : x < 256) (w : World) : (convert 3 5 (.int .i64 (x : Int))).run Tryz.prog w = .ok (.int .u8 (x : Int)) w := by
  have h := run_convert_int (P := Tryz.prog) w 3 5 .i64 (x : Int) (by rw [Tryz.underlying3]; rfl) (by rw [show Tryz.prog.intKind 5 = .u8 by kernel_rfl]; exact Tryz.underlying5)
  rw [show Tryz.prog.intKind 5 = .u8 by kernel_rfl, IntWalk.u8_in _ (by omega)] at h
  exact h

set_option maxRecDepth 100000 in
set_option maxHeartbeats 3200000 in
theorem rmask_any (s : ByteArray) (k : Nat) (w : World) (hs : s.size + 100 ≤ 140737488355328) (hk : k ≤ 512) :
    Calls Tryz.prog 38 #[.string s, .int .i64 (k : Int)] w fun e w' => e = .returned (.string ⟨((mskL s 16).take k).toArray⟩) ∧ Below w.heap.size w w' := by
  obtain ⟨r, hr⟩ : ∃ r : ByteArray, r = ⟨((mskL s 16).take k).toArray⟩ := ⟨_, rfl⟩
  rw [← hr]
  have HR := Lib.hid hr
  clear hr
  go_enter Tryz.func38, Tryz.ntmps38
  go_wp2_with fail
  refine (r2of_any _).mono ?_
  rintro e w1 ⟨gk, ck, gf, cf, rfl, hrk, hrf, hb1⟩
  have hR0 := Rws.start w1
  obtain ⟨kd, hkd⟩ : ∃ kd, kd = kdc (.slice (some ⟨gk, 0, none⟩) 64 ck) (.slice (some ⟨gf, 0, none⟩) 8 cf) := ⟨_, rfl⟩
  have hkds : kd.size = 17 := by rw [hkd]; rfl
  have hkdc : kd.all (·.oneCell') = true := by rw [hkd]; simp [kdc, Value.oneCell']
  have hsum : ∀ (x : ByteArray) (w : World), x.size + 80 ≤ 140737488355328 → Rd w .u64 (some ⟨gk, 0, none⟩) 64 ck kF → Rd w .u64 (some ⟨gf, 0, none⟩) 8 cf firstF → Calls Tryz.prog 68 #[.agg kd, .string x] w fun e w' => e = .returned (.string (sha x)) ∧ Below w.heap.size w w' := fun x w hx h1 h2 => by rw [hkd]; exact r2ksum_any x gk ck gf cf w hx h1 h2
  rw [← hkd]
  have HSUM := Lib.hid hsum; have HS := Lib.hid hkds; have HC := Lib.hid hkdc
  clear hkd hkds hkdc hsum
  go_upto_region 4 with (first
    | (refine wpList_alloc_rws (cs := zkd) rfl _ (by rfl) (by assumption) zero_kd ?_; intro g6 w2 hR)
    | (refine wpList_store_rws rfl _ _ _ (by rfl) (by assumption) _ rfl kd rfl _ _ _ (by repeat (first | exact Pick.here | apply Pick.there)) (by rw [HS.out]; exact kd_info) (by rw [HS.out]; rfl) HC.out ?_; intro w3 hR3))
  have hb3 := hR3.below
  have hk3 := hrk.below hb3 (Nat.le_refl _)
  have hf3 := hrf.below hb3 (Nat.le_refl _)
  have hrow3 := (hR3.row _ (List.Mem.head _)).2
  have hg3 : g6 < w3.heap.size := hR3.lt (List.Mem.head _)
  have hb03 : Below w.heap.size w w3 := hb1.trans (hb3.mono hb1.size)
  have HROW := Lib.hid hrow3
  clear hR3 hR0 hrow3 hb3 hb1 hrk hrf
  go_loopw [5, 8] (fun ov iv wr => ∃ i : Nat, i ≤ 16 ∧ ov = .string ⟨(mskL s i).toArray⟩ ∧ iv = .int .i64 i ∧ Below w3.heap.size w3 wr) (fun _ iv _ => 17 - (intOf iv).toNat)
  case atStart => exact ⟨0, by omega, rfl, rfl, Below.refl _ _⟩
  case round =>
    obtain ⟨i, hi, rfl, rfl, hb⟩ := hrel
    obtain ⟨o, ho⟩ : ∃ o, o = (⟨(mskL s i).toArray⟩ : ByteArray) := ⟨_, rfl⟩
    have hoz : o.size = 32 * i := by rw [ho, str_size, mskL_length]
    have hsz := hb.size
    rw [← ho]
    have HO := Lib.hid ho
    clear ho
    by_cases hlt : 32 * i < k
    · have hdec : decide (o.size < k) = true := by rw [decide_eq_true_eq]; omega
      have h8 : (i : Int) / 256 = 0 := by omega
      have h9 : (i : Int) % 256 = (i : Int) := by omega
      have hR0 : Rws w3.heap.size w3 wr [] := ⟨hb, hsz, (fun _ h => by cases h), List.Pairwise.nil⟩
      have hrow : wr.heap[g6]? = some (.cells kd 99 (0, 0)) := (hb.block g6 hg3).trans HROW.out
      have hcv : (convert 46 9 (.slice (some ⟨wr.heap.size, 0, none⟩) 4 4)).run Tryz.prog (wr.alloc (.cells #[.int .u8 0, .int .u8 0, .int .u8 0, .int .u8 (i : Int)] 5)) = .ok (.string ⟨#[0, 0, 0, UInt8.ofNat i]⟩) (wr.alloc (.cells #[.int .u8 0, .int .u8 0, .int .u8 0, .int .u8 (i : Int)] 5)) := by
        have h := run_string_buf (buf_new wr [0, 0, 0, UInt8.ofNat i] (by simp))
        simp only [List.map_cons, List.map_nil, List.length_cons, List.length_nil, toNat_ofNat8 i (by omega)] at h
        exact h
      have hcat : ∀ w : World, (Op.stringOp .add s ⟨#[0, 0, 0, UInt8.ofNat i]⟩).run Tryz.prog w = .ok (.string (seedB s i)) w := fun w => run_string_add_sum w s _ (by show s.size + 4 ≤ _; omega)
      obtain ⟨t, ht⟩ : ∃ t, t = sha (seedB s i) := ⟨_, rfl⟩
      have hts : t.size = 32 := by rw [ht]; rfl
      have hsum : ∀ w : World, Below w3.heap.size w3 w → Calls Tryz.prog 68 #[.agg kd, .string (seedB s i)] w fun e w' => e = .returned (.string t) ∧ Below w.heap.size w w' := fun w hb => by
        rw [ht]; exact HSUM.out _ w (by rw [seedB_size]; omega) (hk3.below hb (Nat.le_refl _)) (hf3.below hb (Nat.le_refl _))
      have hcat2 : ∀ w : World, (Op.stringOp .add o t).run Tryz.prog w = .ok (.string (o ++ t)) w := fun w => run_string_add_sum w o t (by rw [hts, hoz]; omega)
      have hnext : o ++ t = ⟨(mskL s (i + 1)).toArray⟩ := by
        rw [HO.out, ht, show sha (seedB s i) = ByteArray.mk (sha (seedB s i)).data.toList.toArray from by simp, str_append]; rfl
      have HSS := Lib.hid hsum; have HN := Lib.hid hnext
      have HW := Lib.hid hrow
      clear hsum hnext ht hts hoz hrow
      go_wp2_with (refine wpList_load_row rfl _ _ (by rfl) g6 rfl 99 kd (0, 0) _ HW.out Tryz.underlying99 rfl (by rw [HS.out]; exact kd_info) ?_)
      refine (HSS.out _ (hb.alloc hsz _)).mono ?_
      rintro e w2 ⟨rfl, hb2⟩
      have hbel := (hb.alloc hsz _).trans (hb2.mono (Nat.le_trans hsz (by simp)))
      clear hb2 hcv hcat
      go_wp2_with fail
      go_roundw
      case rel => exact ⟨i + 1, by omega, by rw [← HN.out], by go_num, hbel⟩
      case measure => simp [intOf]; omega
    · have hdec : decide (o.size < k) = false := by rw [decide_eq_false_iff_not]; omega
      have hko : k ≤ o.size := by omega
      have hex : o.extract 0 k = r := by
        rw [HR.out, HO.out, ← mskL_take s (i := i) (by omega) (by omega)]
        exact str_take _ _
      have HX := Lib.hid hex
      have hres := hb03.trans (hb.mono hb03.size)
      clear hex
      go_wp2_with fail
      go_ret
      exact ⟨by show Ending.returned (.string (o.extract 0 k)) = _; rw [HX.out], hres⟩

set_option maxRecDepth 100000 in
theorem rMask_any (s : ByteArray) (n : Int) (w : World) (hs : s.size + 100 ≤ 140737488355328) :
    Calls Tryz.prog 17 #[.string s, .int .i64 n] w fun e w' => e = ret2 (MaskR s n).1 (MaskR s n).2 ∧ Below w.heap.size w w' := by
  by_cases h0 : n < 0
  · have hR : MaskR s n = ([], 42) := if_pos (Or.inl h0)
    have HR := Lib.hid hR; clear hR
    go_enter Tryz.func17, Tryz.ntmps17
    go_wp2
    go_ret2
    exact ⟨by rw [HR.out]; rfl, Below.refl _ _⟩
  · by_cases h5 : 512 < n
    · have hR : MaskR s n = ([], 42) := if_pos (Or.inr h5)
      have HR := Lib.hid hR; clear hR
      go_enter Tryz.func17, Tryz.ntmps17
      go_wp2
      go_ret2
      exact ⟨by rw [HR.out]; rfl, Below.refl _ _⟩
    · obtain ⟨k, rfl⟩ := Int.eq_ofNat_of_zero_le (by omega : 0 ≤ n)
      have hR : MaskR s (k : Int) = ((mskL s 16).take k, 0) := by unfold MaskR; rw [if_neg (by omega)]; rfl
      have hm := fun w => rmask_any s k w hs (by omega)
      obtain ⟨r, hr⟩ : ∃ r : ByteArray, r = ⟨((mskL s 16).take k).toArray⟩ := ⟨_, rfl⟩
      rw [← hr] at hm
      have HR := Lib.hid hR; have HM := Lib.hid hm; have HE := Lib.hid hr
      clear hR hm hr
      go_enter Tryz.func17, Tryz.ntmps17
      go_wp2_with fail
      refine (HM.out _).mono ?_
      rintro e w1 ⟨rfl, hb1⟩
      go_wp2_with fail
      go_ret2
      exact ⟨by rw [HR.out]; show Ending.returned (.tuple #[.string r, .int .i64 0]) = _; rw [HE.out]; rfl, hb1⟩
end Go.Proofs.YtjkjlbchbbpmaaaGreatDoor
