/- EBytes ENumber, in one text. -/
import Derived.Test.YtaggpodckafbgaaGreatDoorZF
import Derived.Test.YtaggpodckafbgaaGreatDoorZN2
import Derived.Lib.ConvBytes
import Derived.Lib.SmallJoins
import Derived.Test.YtaggpodckafbgaaGreatDoorZA0
/- bytes: a number's 32 bytes. -/
namespace Go.Proofs.YtaggpodckafbgaaGreatDoor
open Go.RowKit
def px (v n t : Nat) : List UInt8 := (List.range t).map fun k => UInt8.ofNat (Dg.dg 256 v (n - 1 - k))
theorem px_length (v n t : Nat) : (px v n t).length = t := by simp [px]
theorem px_succ (v n t : Nat) : px v n (t + 1) = px v n t ++ [UInt8.ofNat (Dg.dg 256 v (n - 1 - t))] := by
  unfold px; rw [List.range_succ, List.map_append]; rfl
theorem byte_word (v q r : Nat) (hr : r < 8) : Dg.dg WD v q / 2 ^ (8 * r) % 256 = Dg.dg 256 v (8 * q + r) := by
  unfold Dg.dg
  rw [show WD = 2 ^ 64 from rfl, show (256 : Nat) = 2 ^ 8 from rfl]
  apply Nat.eq_of_testBit_eq
  intro i
  rw [Nat.testBit_mod_two_pow, Nat.testBit_mod_two_pow, Nat.testBit_div_two_pow, Nat.testBit_mod_two_pow, ← Nat.pow_mul, ← Nat.pow_mul, Nat.testBit_div_two_pow, Nat.testBit_div_two_pow]
  by_cases hi : i < 8
  · rw [decide_eq_true hi, decide_eq_true (by omega : i + 8 * r < 64), Bool.true_and, Bool.true_and, Bool.true_and]
    congr 1; omega
  · rw [decide_eq_false hi, Bool.false_and, Bool.false_and]
set_option maxRecDepth 100000 in
set_option maxHeartbeats 800000 in
theorem bytes_any (v : Nat) (hv : v < 115792089237316195423570985008687907853269984665640564039457584007913129639936) (w : World) :
    Calls Tryz.prog 57 #[.agg (nmc v)] w fun e w' => e = .returned (.string ⟨(pb v 32).toArray⟩) ∧ Below w.heap.size w w' := by
  have HV := Lib.hid hv
  clear hv
  have hR0 := Rws.start w
  go_enter Tryz.func57, Tryz.ntmps57
  go_upto_region 1 with (refine wN_box rfl (by rfl) (by assumption) rfl ?_; intro ga w1 hR)
  have hbuf1 : Buf w1 w1.heap.size (.slice none 0 0) (px v 32 (8 * 0)) := ⟨rfl, Or.inl ⟨rfl, rfl⟩⟩
  have HR := Lib.hid hR
  clear hR
  go_wp2_with fail
  go_loopw [3, 6] (fun bv iv wr => ∃ i : Nat, i ≤ 4 ∧ iv = .int .i64 i ∧ Buf wr w1.heap.size bv (px v 32 (8 * i)) ∧ Below w1.heap.size w1 wr) (fun _ iv _ => 4 - (intOf iv).toNat)
  case atStart => exact ⟨0, Nat.zero_le _, rfl, hbuf1, Below.refl _ _⟩
  case round =>
    clear hbuf1
    obtain ⟨i, hi, rfl, hbuf, hbel⟩ := hrel
    by_cases hin : i < 4
    · have hdec : decide ((i : Int) < 4) = true := by rw [decide_eq_true_eq]; omega
      go_wp2_with fail
      clear hdec
      obtain ⟨wo, rfl⟩ : ∃ wo : World, wo = wr := ⟨_, rfl⟩
      go_loopw [3, 5] (fun bv sv wr => ∃ r : Nat, r ≤ 8 ∧ sv = .int .i64 (8 * (r : Int) - 8) ∧ Buf wr w1.heap.size bv (px v 32 (8 * i + (8 - r))) ∧ Below w1.heap.size w1 wr) (fun _ sv _ => (intOf sv + 8).toNat)
      case atStart => exact ⟨8, Nat.le_refl _, rfl, hbuf, hbel⟩
      case round =>
        clear hbuf hbel
        obtain ⟨r, hr, rfl, hbuf, hbel⟩ := hrel
        have hsz := hbel.size
        by_cases hr0 : r = 0
        · subst hr0
          go_wp2_with fail
          go_roundw
          case rel => exact ⟨i + 1, by omega, by go_num, hbuf, hbel⟩
          case measure => simp [intOf]; omega
        · obtain ⟨k, rfl⟩ : ∃ k, r = k + 1 := ⟨r - 1, by omega⟩
          have ek : 8 * (((k + 1 : Nat)) : Int) - 8 = ((8 * k : Nat) : Int) := by omega
          rw [ek]
          obtain ⟨sh, hsh⟩ : ∃ sh, sh = 8 * k := ⟨_, rfl⟩
          rw [← hsh]
          obtain ⟨q, hq⟩ : ∃ q, q + i = 3 := ⟨3 - i, by omega⟩
          have e3 : (3 : Int) - (i : Int) = (q : Int) := by omega
          have hq4 : q < 4 := by omega
          have hsl : sh ≤ 56 := by omega
          have hce : wr.cell? ⟨ga, q, none⟩ = some (.int .u64 (Dg.dg WD v q : Nat)) := (cell_of_row wr ga q _ _ _ ((HR.out.call hbel).row _ (List.Mem.head _)).2).trans (nmc_dg v HV.out _ hq4)
          obtain ⟨d, hd⟩ : ∃ d, d = Dg.dg WD v q := ⟨_, rfl⟩
          rw [← hd] at hce
          obtain ⟨cs, hcs⟩ : ∃ cs, cs = [UInt8.ofNat (Dg.dg 256 v (8 * q + k))] := ⟨_, rfl⟩
          have hbw := byte_word v q k (by omega)
          have hcl : cs.length = 1 := by rw [hcs]; rfl
          have hcv : (cs.map fun c => Value.int .u8 (c.toNat : Nat)) = [Value.int .u8 ((d : Int) / 2 ^ sh % 256)] := by
            rw [hcs]
            simp only [List.map_cons, List.map_nil]
            rw [toNat_ofNat8 _ (Dg.dg_lt (by omega) _ _), ← hbw, hd, hsh]
            congr 2
          have hps : px v 32 (8 * i + (8 - k)) = px v 32 (8 * i + (8 - (k + 1))) ++ cs := by
            rw [hcs, show 8 * i + (8 - k) = 8 * i + (8 - (k + 1)) + 1 by omega, px_succ]
            congr 4; omega
          have hpl : (px v 32 (8 * i + (8 - (k + 1)))).length + 1 ≤ 140737488355328 := by rw [px_length]; omega
          have HCV := Lib.hid hcv; have HPS := Lib.hid hps; have HPL := Lib.hid hpl; have HCL := Lib.hid hcl
          have HD := Lib.hid hd; have HQ := Lib.hid hq; have HSH := Lib.hid hsh
          clear hd hq ek hsh hcs hcv hps hpl hcl hbw
          go_wp2_with (at_builtin; refine wpList_append_buf _ rfl (.tmp 13) (.tmp 21) _ rfl Tryz.underlying50 w1.heap.size _ (px v 32 (8 * i + (8 - (k + 1)))) rfl (hbuf.below ((Below.refl _ _).alloc (Nat.le_refl _) _)) ⟨wr.heap.size, 0, none⟩ 1 1 cs rfl HCL.out ?h1 HPL.out (by simp; omega) w1 (hbel.alloc (by omega) _) ?_; rotate_left; intro v' w2 hbuf2 hbel2 _)
          case h1 => rw [HCV.out]; exact new_cells _ _ _
          go_roundw
          case rel =>
            exact ⟨k, by omega, (show Value.int .i64 ((sh : Int) - 8) = _ by rw [show (8 * (k : Int) - 8) = (sh : Int) - 8 by rw [HSH.out]; omega]), by rw [HPS.out]; exact hbuf2, hbel2⟩
          case measure => simp [intOf]; omega
    · obtain rfl : i = 4 := by omega
      have hcv := run_string_buf hbuf
      go_wp2_with fail
      go_ret
      exact ⟨rfl, (HR.out.call hbel).below⟩
end Go.Proofs.YtaggpodckafbgaaGreatDoor
/- number: that of 32 bytes. -/
namespace Go.Proofs.YtaggpodckafbgaaGreatDoor
open Go.RowKit
theorem dg_slice (l : List UInt8) (hl : l.length = 32) (i q : Nat) (hq : q + i = 3) : bv ((l.drop (8 * i)).take 8) = Dg.dg WD (bv l) q := by
  obtain ⟨A, hA⟩ : ∃ A, A = l.take (8 * i) := ⟨_, rfl⟩
  obtain ⟨T, hT⟩ : ∃ T, T = (l.drop (8 * i)).take 8 := ⟨_, rfl⟩
  obtain ⟨C, hC⟩ : ∃ C, C = (l.drop (8 * i)).drop 8 := ⟨_, rfl⟩
  have e : l = A ++ (T ++ C) := by rw [hA, hT, hC, List.take_append_drop, List.take_append_drop]
  have hCl : C.length = 8 * q := by rw [hC]; simp; omega
  have hTl : T.length = 8 := by rw [hT]; simp; omega
  rw [← hT]
  have e1 : bv l = (bv A * WD + bv T) * WD ^ q + bv C := by
    rw [e, bv_append, bv_append, List.length_append, hCl, hTl, Nat.pow_add, show (256 : Nat) ^ (8 * q) = WD ^ q by rw [show WD = 256 ^ 8 from rfl, ← Nat.pow_mul], show (256 : Nat) ^ 8 = WD from rfl, Nat.add_mul, Nat.mul_assoc]
    omega
  have hc := bv_lt C
  rw [hCl, show (256 : Nat) ^ (8 * q) = WD ^ q by rw [show WD = 256 ^ 8 from rfl, ← Nat.pow_mul]] at hc
  have ht := bv_lt T
  rw [hTl, show (256 : Nat) ^ 8 = WD from rfl] at ht
  unfold Dg.dg
  rw [e1, Nat.add_comm, Nat.add_mul_div_right _ _ (Nat.pow_pos WD0), Nat.div_eq_of_lt hc, Nat.zero_add, Nat.mul_comm, Nat.mul_add_mod, Nat.mod_eq_of_lt ht]
theorem extract_list (s : ByteArray) (lo : Nat) : (s.extract lo (lo + 8)).data.toList = (s.data.toList.drop lo).take 8 := by
  rw [ByteArray.data_extract, Array.toList_extract, List.extract_eq_take_drop, Nat.add_sub_cancel_left]
theorem wpList_bytes (w : World) {ops : Array Oper} {rest : List Oper} {o : Oper} {a : Act} {Q : Exit → Act → World → Prop} (hgd : o.guard = none) (x : Operand) (ho : o.op = .convert 9 50 x) (s : ByteArray) (hx : a.eval x = .string s)
    (hK : ∀ g cap w', w.heap.size ≤ g → Below w.heap.size w w' → (∀ j, j < s.size → w'.cell? ⟨g, j, none⟩ = some (.int .u8 ((s.data.toList.getD j 0).toNat : Nat))) → wpList Tryz.prog ops Q rest (a.put o.dst (.slice (some ⟨g, 0, none⟩) s.size cap)) w') : wpList Tryz.prog ops Q (o :: rest) a w :=
  wpList_plain hgd fun K hKK => by
    have h1 := Lib.run_convert_string_bytes (P := Tryz.prog) w 9 50 5 s Tryz.underlying9 Tryz.underlying50 Tryz.underlying5
    unfold Oper.wp execOp
    simp only [ho, hx]
    rw [Sem.run_bind, h1]
    exact hKK _ _ (hK _ _ _ (Nat.le_refl _) (Joins.below_bytesWorld _ w _ s (Nat.le_refl _)) (fun j hj => Lib.bytesWorld_cell w _ s j hj))
set_option maxRecDepth 100000 in
set_option maxHeartbeats 1600000 in
theorem number_any (s : ByteArray) (hs : s.size = 32) (w : World) :
    Calls Tryz.prog 45 #[.string s] w fun e w' => e = .returned (.agg (nmc (nv s))) ∧ Below w.heap.size w w' := by
  have hl : s.data.toList.length = 32 := by simpa using hs
  have hvl : nv s < 115792089237316195423570985008687907853269984665640564039457584007913129639936 := by
    have := bv_lt s.data.toList
    rw [hl] at this
    exact this
  have hdg : ∀ i q, q + i = 3 → bv ((s.extract (8 * i) (8 * i + 8)).data.toList) = Dg.dg WD (nv s) q := fun i q hq => by
    rw [extract_list]; exact dg_slice _ hl i q hq
  have hTs : ∀ i, i < 4 → (s.extract (8 * i) (8 * i + 8)).size = 8 := fun i hi => by
    rw [ByteArray.size_extract, hs]; omega
  have HDG := Lib.hid hdg; have HTS := Lib.hid hTs; have HVL := Lib.hid hvl
  clear hdg hTs hl hvl
  have hR0 := Rws.start w
  go_enter Tryz.func45, Tryz.ntmps45
  go_upto_region 1 with (refine wN_alloc rfl (by rfl) (by assumption) ?_; intro gr w1 hR)
  go_upto_region 2 with (refine wN_alloc rfl (by rfl) (by assumption) ?_; intro ga w1 hR)
  have hown : Own w1 .u64 53 ga 4 (fun j => if 3 < j + 0 then Dg.dg WD (nv s) j else 0) := hR.own (cs := z4) (List.Mem.head _) rfl (by omega) (fun j hj => by
    rw [if_neg (by omega)]
    rcases (by omega : j = 0 ∨ j = 1 ∨ j = 2 ∨ j = 3) with rfl | rfl | rfl | rfl <;> rfl)
  have hne : ∀ x, x ∈ [(gr, z4, 53)] → x.1 ≠ ga := fun x hx e => (List.pairwise_cons.1 hR.nd).1 x hx e.symm
  have hg : w.heap.size ≤ ga := (hR.row _ (List.Mem.head _)).1
  have hR3 : Rws w.heap.size w w1 [(gr, z4, 53)] := hR.sub (List.sublist_cons_self _ _)
  have HNE := Lib.hid hne; have HG := Lib.hid hg
  clear hne hg hR
  go_wp2_with fail
  go_loopw [7] (fun iv wr => ∃ i : Nat, i ≤ 4 ∧ iv = .int .i64 i ∧ Own wr .u64 53 ga 4 (fun j => if 3 < j + i then Dg.dg WD (nv s) j else 0) ∧ Rws w.heap.size w wr [(gr, z4, 53)]) (fun iv _ => 4 - (intOf iv).toNat)
  case atStart => exact ⟨0, Nat.zero_le _, rfl, hown, hR3⟩
  case round =>
    clear hown hR3
    obtain ⟨i, hi, rfl, hown, hR⟩ := hrel
    by_cases hin : i < 4
    · have hdec : decide ((i : Int) < 4) = true := by rw [decide_eq_true_eq]; omega
      obtain ⟨q, hq⟩ : ∃ q, q + i = 3 := ⟨3 - i, by omega⟩
      have e3 : (3 : Int) - (i : Int) = (q : Int) := by omega
      obtain ⟨lo, hlo⟩ : ∃ lo, lo = 8 * i := ⟨_, rfl⟩
      have e8 : (8 : Int) * (i : Int) = (lo : Int) := by omega
      have hlo2 : lo + 8 ≤ 32 := by omega
      obtain ⟨T, hT⟩ : ∃ T, s.extract lo (lo + 8) = T := ⟨_, rfl⟩
      have hTs : T.size = 8 := by rw [← hT, hlo]; exact HTS.out i hin
      have hTd : bv T.data.toList = Dg.dg WD (nv s) q := by rw [← hT, hlo]; exact HDG.out i q hq
      have HTD := Lib.hid hTd; have HQ := Lib.hid hq; have HTS2 := Lib.hid hTs
      clear hTd hq hlo
      go_wp2_with (refine wpList_bytes _ rfl _ (by rfl) _ rfl ?_; intro gt cap w2 hgt hb2 hcells)
      have hown2 : Own w2 .u64 53 ga 4 (fun j => if j = q then bv (T.data.toList.take 0) else if 3 < j + i then Dg.dg WD (nv s) j else 0) := (hown.below hb2 (Nat.le_refl _)).congr fun j hj => by
        by_cases h1 : j = q
        · rw [if_pos h1, List.take_zero, bv_nil, if_neg (by have := HQ.out; omega)]
        · rw [if_neg h1]
      have hR2 := hR.call hb2
      rw [hT] at hcells
      have hgne : ga ≠ gt := by have := hown.lt; omega
      have HGN := Lib.hid hgne
      clear hown hR hb2 hgne
      go_loopw [19] (fun iv wr => ∃ k : Nat, k ≤ 8 ∧ iv = .int .i64 k ∧ Own wr .u64 53 ga 4 (fun j => if j = q then bv (T.data.toList.take k) else if 3 < j + i then Dg.dg WD (nv s) j else 0) ∧ (∀ j, j < 8 → wr.cell? ⟨gt, j, none⟩ = some (.int .u8 ((T.data.toList.getD j 0).toNat : Nat))) ∧ Rws w.heap.size w wr [(gr, z4, 53)]) (fun iv _ => 8 - (intOf iv).toNat)
      case atStart => exact ⟨0, Nat.zero_le _, rfl, hown2, fun j hj => hcells j (by rw [HTS2.out]; exact hj), hR2⟩
      case round =>
        clear hown2 hR2 hcells
        obtain ⟨k, hk, rfl, hown, hcells, hR⟩ := hrel
        have hlT : T.data.toList.length = 8 := by simpa using HTS2.out
        by_cases hk8 : k < 8
        · obtain ⟨c, hc⟩ : ∃ c, c = T.data.toList.getD k 0 := ⟨_, rfl⟩
          have hcell := hcells k hk8
          rw [← hc] at hcell
          obtain ⟨x, hx⟩ : ∃ x, x = bv (T.data.toList.take k) := ⟨_, rfl⟩
          have hco : wr.cell? ⟨ga, q, none⟩ = some (.int .u64 (x : Nat)) := by
            have h := hown.cell q (by have := HQ.out; omega)
            rw [if_pos rfl, ← hx] at h
            exact h
          have hxl : x < 256 ^ 7 := by
            have h := bv_lt (T.data.toList.take k)
            rw [List.length_take, hlT, Nat.min_eq_left hk] at h
            rw [hx]
            exact Nat.lt_of_lt_of_le h (Nat.pow_le_pow_right (by omega) (by omega))
          have hfr := hown.frozen q
          have hq4 : q < 4 := by have := HQ.out; omega
          obtain ⟨cn, hcn⟩ : ∃ cn : Nat, cn = c.toNat := ⟨_, rfl⟩
          have hcl : cn < 256 := by rw [hcn]; exact c.toNat_lt
          rw [← hcn] at hcell
          have hnext : bv (T.data.toList.take (k + 1)) = x * 256 + cn := by
            rw [List.take_add_one, bv_append, ← hx, hcn, hc]
            simp [List.getD, List.getElem?_eq_getElem (by omega : k < T.data.toList.length), bv_cons, bv_nil]
          have hxl2 : x < 72057594037927936 := hxl
          have HC := Lib.hid hcells; have HNX := Lib.hid hnext; have HO := Lib.hid hown
          clear hcells hnext hown hx hc hcn hxl
          go_wp2_with fail
          have hv : bits .or .u64 ((x : Int) * 256) (cn : Int) = ((x * 256 + cn : Nat) : Int) := by
            have h := u64_or_nat (x * 256) cn (by omega) (by omega)
            have e : x * 256 ||| cn = x * 256 + cn := by
              have h2 := Nat.two_pow_add_eq_or_of_lt (i := 8) (b := cn) hcl x
              rw [Nat.mul_comm x 256]
              exact h2.symm
            rw [e] at h
            rw [← h]
            simp
          have hnx := HNX.out
          go_roundw
          case rel => exact ⟨k + 1, by omega, by go_num, own_put_int HO.out (s := x * 256 + cn) hv (by rw [if_pos rfl, hnx]) (fun j hj hne => by rw [if_neg hne, if_neg hne]), fun j hj => by
            rw [World.cell?_setCell_other]
            · exact HC.out j hj
            · intro e; exact HGN.out (congrArg Addr.block e), hR.cell HG.out HNE.out _ _⟩
          case measure => simp [intOf]; omega
        · obtain rfl : k = 8 := by omega
          have hown3 : Own wr .u64 53 ga 4 (fun j => if 3 < j + (i + 1) then Dg.dg WD (nv s) j else 0) := hown.congr fun j hj => by
            have hq := HQ.out
            by_cases h1 : j = q
            · rw [if_pos h1, if_pos (by omega), List.take_of_length_le (by omega), HTD.out, h1]
            · rw [if_neg h1]
              by_cases h2 : 3 < j + i
              · rw [if_pos h2, if_pos (by omega)]
              · rw [if_neg h2, if_neg (by omega)]
          clear hown hcells
          go_wp2_with fail
          go_roundw
          case rel => exact ⟨i + 1, by omega, by go_num, hown3, hR⟩
          case measure => simp [intOf]; omega
    · obtain rfl : i = 4 := by omega
      have hR4 := hR.ofOwn (hown.congr (f' := Dg.dg WD (nv s)) fun j hj => by rw [if_pos (by omega)]) HG.out HNE.out (nmc_size (nv s)) (nmc_dg (nv s) HVL.out)
      clear hown hR
      go_wp2_with (first
        | (refine wN_load rfl (by rfl) (by assumption) rfl (by repeat (first | exact pzH | refine pzM ?_)) rfl ?_)
        | (refine wN_store rfl (by rfl) (by assumption) rfl rfl (by repeat (first | exact Pick.here | apply Pick.there)) rfl rfl (by exact nmc_cells _) ?_; intro w1 hR))
      exact wN_end Tryz.results45 (by assumption) rfl (List.Mem.head _) rfl rfl fun hb => ⟨rfl, hb⟩
end Go.Proofs.YtaggpodckafbgaaGreatDoor
