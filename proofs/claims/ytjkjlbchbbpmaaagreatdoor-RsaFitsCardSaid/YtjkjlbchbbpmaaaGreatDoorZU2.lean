/- VPss VFits, in one text. -/
import Derived.Test.YtjkjlbchbbpmaaaGreatDoorZUIs
import Derived.Test.YtjkjlbchbbpmaaaGreatDoorZX3
import Derived.Lib.AppendStr
/- The reference's Pss (layer 4): the walk. -/
namespace Go.Proofs.YtjkjlbchbbpmaaaGreatDoor
open Go.RowKit

/-- Bytes of the call's own as a row by a function. -/
theorem Buf.rowM {w : World} {B : Nat} {v : Value} {l : List UInt8} (h : Buf w B v l) (h0 : 0 < l.length) : ∃ g cap, v = .slice (some ⟨g, 0, none⟩) l.length cap ∧ RowM w B g l.length cap (fun i => (l.getD i 0).toNat) := by
  obtain ⟨_, ⟨rfl, h2⟩ | ⟨g, cap, cur, rfl, hg, hh, h3, h4, h5, h6⟩⟩ := h
  · omega
  · rw [Nat.mul_one] at h5 h6
    refine ⟨g, cap, rfl, cur, (0, 0), hg, hh, Or.inl rfl, h3, h4, h5, fun j hj => ?_⟩
    have e : (cur.toList.take l.length)[j]? = cur[j]? := by rw [List.getElem?_take_of_lt hj]; simp
    rw [← e, h6, List.getElem?_map, List.getElem?_eq_getElem hj]
    simp [List.getD, List.getElem?_eq_getElem hj]
theorem wpList_append_bufs (w : World) {ops : Array Oper} {rest : List Oper} {o : Oper} {a : Act} {Q : Exit → Act → World → Prop} (hgd : o.guard = none) (sl x : Operand)
    (ho : o.op = .call { callee := .builtin .append, args := #[sl, x], argTypes := #[46, 9] }) (B : Nat) (v : Value) (l : List UInt8) (hs : a.eval sl = v) (hb : Buf w B v l) (s : ByteArray) (hx : a.eval x = .string s)
    (hlen : l.length + s.size ≤ 140737488355328) (hbase : B ≤ w.heap.size) (w0 : World) (hw0 : Below B w0 w)
    (h : ∀ v' w', Buf w' B v' (l ++ s.data.toList) → Below B w0 w' → wpList Tryz.prog ops Q rest (a.put o.dst v') w') : wpList Tryz.prog ops Q (o :: rest) a w := by
  obtain ⟨i, hi, hz0, hz1, hz2⟩ := info_parts info8
  refine Lib.wpList_append_own_string w hgd sl x 46 9 ho B 5 i Tryz.underlying46 Tryz.underlying9 hi hz0 hz1 hz2 v l.length _ hs hb s hx (by unfold maxLen; omega) hlen hbase ?_
  intro v' w' hown hgr _
  refine h v' w' ?_ (hw0.grown hgr hbase ?_)
  · unfold Buf
    rw [List.length_append, List.map_append, list_size]
    have e : Lib.strCells s = s.data.toList.map fun c => Value.int .u8 (c.toNat : Nat) := rfl
    rw [← e]; exact hown
  · intro k hk
    exact (hb.lt k hk).1

theorem dF_list (salt : ByteArray) (n m : Nat) (hn : n = m + 66) (hsl : salt.size = 32) : ∀ i, i < m + 33 → ((List.replicate m (0 : UInt8) ++ [1] ++ salt.data.toList).getD i 0).toNat = dF salt n i := by
  intro i hi
  have hsz : salt.data.toList.length = 32 := by rw [list_size, hsl]
  unfold dF
  rw [List.getD_eq_getElem?_getD, show n - 66 = m by omega, show n - 65 = m + 1 by omega]
  by_cases h1 : i < m
  · rw [if_pos h1, List.append_assoc, List.getElem?_append_left (by simpa using h1), List.getElem?_replicate, if_pos h1]; rfl
  · rw [if_neg h1]
    by_cases h2 : i = m
    · rw [if_pos h2, h2, List.getElem?_append_left (by simp), List.getElem?_append_right (by simp)]
      simp
    · rw [if_neg h2, List.getElem?_append_right (by simp; omega)]
      unfold byteAt
      rw [List.getD_eq_getElem?_getD]
      simp
/-- A kind, with its two tables. -/
def KP (kd : Array Value) (gk ck gf cf : Nat) : Prd := fun w v => v = .agg kd ∧ Rd w .u64 (some ⟨gk, 0, none⟩) 64 ck kF ∧ Rd w .u64 (some ⟨gf, 0, none⟩) 8 cf firstF
theorem stb_kp (kd : Array Value) (gk ck gf cf : Nat) : Stb (KP kd gk ck gf cf) := fun _ _ _ hb ⟨hv, h1, h2⟩ => ⟨hv, h1.below hb (Nat.le_refl _), h2.below hb (Nat.le_refl _)⟩

set_option maxRecDepth 100000 in
set_option maxHeartbeats 3200000 in
theorem rpss_any (s salt : ByteArray) (b : Int) (n j T : Nat) (w : World) (hs : s.size + 80 ≤ 140737488355328) (hsl : salt.size = 32) (hn66 : 66 ≤ n) (hn512 : n ≤ 512) (h1 : 1 ≤ b) (h2 : b ≤ 4096) (h3 : (b + 7) / 8 = (n : Int)) (hj : 8 * (n : Int) - b = (j : Int)) (hj7 : j ≤ 7) (hT : T = 2 ^ (8 - j)) :
    Calls Tryz.prog 50 #[.string s, .string salt, .int .i64 b] w fun e w' => e = .returned (.string ⟨(pssL (hashIn s salt) salt n T).toArray⟩) ∧ Below w.heap.size w w' := by
  obtain ⟨r, hr⟩ : ∃ r : ByteArray, r = ⟨(pssL (hashIn s salt) salt n T).toArray⟩ := ⟨_, rfl⟩
  rw [← hr]
  obtain ⟨h, hh⟩ : ∃ h, h = hashIn s salt := ⟨_, rfl⟩
  rw [← hh] at hr
  have hhs : h.size = 32 := by rw [hh]; rfl
  obtain ⟨m, hm⟩ : ∃ m, n = m + 66 := ⟨n - 66, by omega⟩
  have hslb : ((salt.size : Int) != 32) = false := by rw [hsl]; rfl
  have hge : ¬ (n : Int) < 66 := by omega
  have HR := Lib.hid hr; have HH := Lib.hid hh; have HM := Lib.hid hm; have HSL := Lib.hid hsl; have HJ := Lib.hid hj; have HT := Lib.hid hT; have HHS := Lib.hid hhs
  clear hr hh hm hsl hj hT hhs
  go_enter Tryz.func50, Tryz.ntmps50
  go_wp2_with fail
  refine (r2of_any _).mono ?_
  rintro e w1 ⟨gk, ck, gf, cf, rfl, hrk, hrf, hb1⟩
  have hR0 := Rws.start w1
  obtain ⟨kd, hkd⟩ : ∃ kd, kd = kdc (.slice (some ⟨gk, 0, none⟩) 64 ck) (.slice (some ⟨gf, 0, none⟩) 8 cf) := ⟨_, rfl⟩
  have hkds : kd.size = 17 := by rw [hkd]; rfl
  have hkdc : kd.all (·.oneCell') = true := by rw [hkd]; simp [kdc, Value.oneCell']
  have hsum : ∀ (x : ByteArray), x.size + 80 ≤ 140737488355328 → ∀ (w : World) (v u : Value), KP kd gk ck gf cf w v → Is (.string x) w u → Calls Tryz.prog 68 #[v, u] w fun e w' => ∃ t, e = .returned t ∧ Is (.string (sha x)) w' t ∧ Below w.heap.size w w' := fun x hx w v u hv hu => by
    obtain ⟨rfl, a1, a2⟩ := hv
    obtain rfl : u = _ := hu
    rw [hkd]
    exact (r2ksum_any x gk ck gf cf w hx a1 a2).mono fun _ _ ⟨he, hb⟩ => ⟨_, he, rfl, hb⟩
  rw [← hkd]
  have HSUM := Lib.hid hsum; have HS := Lib.hid hkds; have HC := Lib.hid hkdc
  clear hkd hkds hkdc hsum
  go_upto_region 5 with (first
    | (refine wpList_alloc_rws (cs := zkd) rfl _ (by rfl) (by assumption) zero_kd ?_; intro g6 w2 hR)
    | (refine wpList_store_rws rfl _ _ _ (by rfl) (by assumption) _ rfl kd rfl _ _ _ (by repeat (first | exact Pick.here | apply Pick.there)) (by rw [HS.out]; exact kd_info) (by rw [HS.out]; rfl) HC.out ?_; intro w3 hR3))
  have hb3 := hR3.below
  have hk3 := hrk.below hb3 (Nat.le_refl _)
  have hf3 := hrf.below hb3 (Nat.le_refl _)
  have hb03 : Below w.heap.size w w3 := hb1.trans (hb3.mono hb1.size)
  obtain ⟨ss, hss⟩ : ∃ ss, ss = sha s := ⟨_, rfl⟩
  have hsss : ss.size = 32 := by rw [hss]; rfl
  have hs1 := HSUM.out s hs
  rw [← hss] at hs1
  have hzz : zero8.size = 8 := by decide
  have hs2 := HSUM.out (zero8 ++ ss ++ salt) (by rw [ByteArray.size_append, ByteArray.size_append, hsss, HSL.out, hzz]; omega)
  have hh2 : sha (zero8 ++ ss ++ salt) = h := by rw [HH.out, hss]; rfl
  rw [hh2] at hs2
  have HS1 := Lib.hid hs1; have HS2 := Lib.hid hs2; have HSS := Lib.hid hsss; have HZZ := Lib.hid hzz
  clear hR hR0 hb3 hb1 hrk hrf hs1 hs2 hss hsss hzz hh2
  refine wp_region_softG 8 (by kernel_rfl) (by kernel_rfl) (by rfl) hR3 ?_
  refine g_ldw (R := KP kd gk ck gf cf) (by rfl) (by exact fun _ _ _ h => h) (by repeat (first | exact List.Mem.head _ | refine List.Mem.tail _ ?_)) Tryz.underlying99 rfl (by rw [HS.out]; exact kd_info) (stb_kp _ _ _ _ _) (fun w hb => ⟨rfl, hk3.below hb (Nat.le_refl _), hf3.below hb (Nat.le_refl _)⟩) ?_
  refine g_ldw (R := KP kd gk ck gf cf) (by rfl) (by exact fun _ _ _ h => h) (by repeat (first | exact List.Mem.head _ | refine List.Mem.tail _ ?_)) Tryz.underlying99 rfl (by rw [HS.out]; exact kd_info) (stb_kp _ _ _ _ _) (fun w hb => ⟨rfl, hk3.below hb (Nat.le_refl _), hf3.below hb (Nat.le_refl _)⟩) ?_
  refine g_move (by rfl) (stb_is _) (by exact fun _ _ _ h => h) ?_
  refine g_call2 (by rfl) Tryz.func68 (by kernel_rfl) rfl (stb_is (.string ss)) (by exact fun _ _ _ h => h) (by exact fun _ _ _ h => h) HS1.out ?_
  refine g_bin (u := .string ss) (v := .string zero8) (r := .string (zero8 ++ ss)) (by rfl) (by exact fun _ _ _ h => h) (by exact fun _ _ _ h => h) (by rfl) (fun W => run_string_add_sum W zero8 ss (by rw [HSS.out, HZZ.out]; omega)) ?_
  refine g_move (by rfl) (stb_is _) (by exact fun _ _ _ h => h) ?_
  refine g_bin (u := .string salt) (v := .string (zero8 ++ ss)) (r := .string (zero8 ++ ss ++ salt)) (by rfl) (by exact fun _ _ _ h => h) (by exact fun _ _ _ h => h) (by rfl) (fun W => run_string_add_sum W (zero8 ++ ss) salt (by rw [ByteArray.size_append, HSS.out, HZZ.out, HSL.out]; omega)) ?_
  refine g_call2 (by rfl) Tryz.func68 (by kernel_rfl) rfl (stb_is (.string h)) (by exact fun _ _ _ h => h) (by exact fun _ _ _ h => h) HS2.out ?_
  intro w4 hR4 hb4
  iterate 7 (intro v hv; clear hv)
  intro v36 h36
  obtain rfl : v36 = _ := h36
  simp only [softEnd, Act.put, List.setIfInBounds_toArray, List.set_cons_succ, List.set_cons_zero, List.drop_succ_cons, List.drop_zero]
  have hbel4 : Below w.heap.size w w4 := hb03.trans (hb4.mono hb03.size)
  clear hR4 hR3 hb4 hb03 hk3 hf3
  go_upto_region 7 with fail
  have hn66z : (n : Int) - 66 = (m : Int) := by have := HM.out; omega
  have hm512 : m ≤ 512 := by have := HM.out; omega
  have hb0 : Buf (w4.alloc (.cells #[] 5)) w4.heap.size (.slice (some ⟨w4.heap.size, 0, none⟩) 0 0) (List.replicate 0 0) := buf_new w4 [] (by decide)
  go_loopw [11] (fun bw wr => ∃ j : Nat, j ≤ m ∧ Buf wr w4.heap.size bw (List.replicate j 0) ∧ Below w4.heap.size w4 wr) (fun bw _ => m - slen bw)
  case atStart => exact ⟨0, Nat.zero_le _, hb0, (Below.refl _ _).alloc (Nat.le_refl _) _⟩
  case round =>
    clear hb0
    obtain ⟨j', hj', hbuf, hbel⟩ := hrel
    have hlen : (List.replicate j' 0 : List UInt8).length = j' := by simp
    obtain ⟨bo, cap, rfl⟩ := hbuf.form0
    obtain ⟨L, hL⟩ : ∃ L : List UInt8, L = List.replicate j' 0 := ⟨_, rfl⟩
    rw [← hL] at hlen hbuf ⊢
    rw [hlen]
    have hbuf2 : Buf wr w4.heap.size (.slice bo j' cap) L := by rw [← hlen]; exact hbuf
    have hsz := hbel.size
    have HL := Lib.hid hL; have HLN := Lib.hid hlen
    clear hbuf hL hlen
    by_cases hlt : j' < m
    · have hlt2 : (j' : Int) < (m : Int) := by omega
      obtain ⟨c1, hc1⟩ : ∃ c : List UInt8, c = [0] := ⟨_, rfl⟩
      have hv1 : (c1.map fun c => Value.int .u8 (c.toNat : Nat)) = [Value.int .u8 0] := by rw [hc1]; rfl
      have hn1 : c1.length = 1 := by rw [hc1]; rfl
      have hnx : L ++ c1 = List.replicate (j' + 1) 0 := by rw [HL.out, hc1, ← List.replicate_succ']
      have HV1 := Lib.hid hv1; have HN1 := Lib.hid hn1; have HNX := Lib.hid hnx
      clear hc1 hv1 hn1 hnx
      go_wp2_with (at_builtin; refine wpList_append_buf _ rfl (.tmp 43) (.tmp 44) _ rfl Tryz.underlying46 w4.heap.size _ L rfl (hbuf2.below ((Below.refl _ _).alloc (Nat.le_refl _) _)) ⟨wr.heap.size, 0, none⟩ 1 1 c1 rfl HN1.out (news1 HV1.out) (by rw [HLN.out]; omega) (by simp; omega) w4 (hbel.alloc hsz _) ?_; intro v2 w2 hbuf3 hbel3 _)
      go_roundw
      case rel => exact ⟨j' + 1, by omega, by rw [← HNX.out]; exact hbuf3, hbel3⟩
      case measure =>
        obtain ⟨g', c', hv', _⟩ := hbuf3.form (by rw [List.length_append, HN1.out]; omega)
        rw [hv']
        show m - (L ++ c1).length < m - j'
        rw [List.length_append, HLN.out, HN1.out]; omega
    · obtain rfl : j' = m := by omega
      have hge2 : ¬ (j' : Int) < (j' : Int) := by omega
      obtain ⟨c1, hc1⟩ : ∃ c : List UInt8, c = [1] := ⟨_, rfl⟩
      have hv1 : (c1.map fun c => Value.int .u8 (c.toNat : Nat)) = [Value.int .u8 1] := by rw [hc1]; rfl
      have hn1 : c1.length = 1 := by rw [hc1]; rfl
      have HV1 := Lib.hid hv1; have HN1 := Lib.hid hn1; have HC1 := Lib.hid hc1
      clear hc1 hv1 hn1
      go_upto_region 10 with (at_builtin; first
        | (refine wpList_append_buf _ rfl (.tmp 46) (.tmp 47) _ rfl Tryz.underlying46 w4.heap.size _ L rfl (hbuf2.below ((Below.refl _ _).alloc (Nat.le_refl _) _)) ⟨wr.heap.size, 0, none⟩ 1 1 c1 rfl HN1.out (news1 HV1.out) (by rw [HLN.out]; omega) (by simp; omega) w4 (hbel.alloc hsz _) ?_; intro v2 w2 hbuf3 hbel3 _)
        | (refine wpList_append_bufs _ rfl (.tmp 48) (.tmp 49) rfl w4.heap.size _ (L ++ c1) rfl hbuf3 salt rfl (by rw [List.length_append, HLN.out, HN1.out, HSL.out]; omega) hbel3.size w4 hbel3 ?_; intro v3 w5 hbuf5 hbel5))
      obtain ⟨M, hM⟩ : ∃ M, M = j' + 33 := ⟨_, rfl⟩
      have hll : (L ++ c1 ++ salt.data.toList).length = M := by rw [List.length_append, List.length_append, HLN.out, HN1.out, list_size, HSL.out]; omega
      obtain ⟨g, cap5, rfl, hrow⟩ := hbuf5.rowM (by omega)
      rw [hll] at hrow ⊢
      have hrowD : RowM w5 w4.heap.size g M cap5 (dF salt n) := hrow.congr fun i hi => by rw [HL.out, HC1.out]; exact dF_list salt n j' HM.out HSL.out i (by omega)
      have hmk := fun w => rmask_any h M w (by rw [HHS.out]; omega) (by omega)
      obtain ⟨kb, hkb⟩ : ∃ kb : ByteArray, kb = ⟨((mskL h 16).take M).toArray⟩ := ⟨_, rfl⟩
      have hki : ∀ i : Nat, i < M → ∀ W : World, (Instr.index 9 (.string kb) (.int .i64 (i : Int))).run Tryz.prog W = .ok (.int .u8 ((mskF h i : Nat) : Int)) W := fun i hi W => by
        have hl := mskL_length h 16
        rw [hkb, str_index _ i (by rw [str_size, List.length_take]; omega) W]
        unfold mskF
        show Result.ok (Value.int .u8 ((((mskL h 16).take M).getD i 0).toNat : Int)) W = _
        rw [List.getD_eq_getElem?_getD, List.getElem?_take_of_lt hi, List.getD_eq_getElem?_getD]
      rw [← hkb] at hmk
      have hn33 : (n : Int) - 33 = (M : Int) := by have := HM.out; omega
      have HMK := Lib.hid hmk; have HKI := Lib.hid hki; have HMM := Lib.hid hM
      have hM1 : 33 ≤ M := by omega
      have hM2 : M ≤ 600 := by omega
      clear hmk hki hkb hM hll hrow hbuf5 hbuf3 hbel3 hbuf2 hbel
      go_wp2_with fail
      refine (HMK.out _).mono ?_
      rintro e w6 ⟨rfl, hb6⟩
      have hrow6 := hrowD.below hb6
      have hbel6 : Below w4.heap.size w4 w6 := hbel5.trans (hb6.mono hbel5.size)
      have hgge := hrow6.ge
      clear hrowD hb6 hbel5 hn33
      go_upto_region 12 with fail
      have hrow0 : RowM w6 w4.heap.size g M cap5 (fun i => if i < 0 then dF salt n i ^^^ mskF h i else dF salt n i) := hrow6.congr fun i _ => by rw [if_neg (by omega)]
      clear hrow6
      go_loopw [13] (fun v wr => ∃ k : Nat, k ≤ M ∧ v = .int .i64 k ∧ RowM wr w4.heap.size g M cap5 (fun i => if i < k then dF salt n i ^^^ mskF h i else dF salt n i) ∧ Below w4.heap.size w4 wr) (fun v _ => M - (intOf v).toNat)
      case atStart => exact ⟨0, Nat.zero_le _, rfl, hrow0, hbel6⟩
      case round =>
        clear hrow0 hbel6
        obtain ⟨k, hk, rfl, hrow, hbel⟩ := hrel
        by_cases hlt : k < M
        · have ck := hrow.cell k hlt
          rw [if_neg (by omega)] at ck
          have hfr := hrow.free k hlt
          have hix := HKI.out k hlt
          obtain ⟨a, ha⟩ : ∃ a, a = dF salt n k := ⟨_, rfl⟩
          obtain ⟨c, hc⟩ : ∃ c, c = mskF h k := ⟨_, rfl⟩
          rw [← ha] at ck
          rw [← hc] at hix
          have hxor := u8_xor_nat a c (by rw [ha]; exact dF_lt _ _ _) (by rw [hc]; exact mskF_lt _ _)
          have HA := Lib.hid ha; have HC2 := Lib.hid hc; have HXO := Lib.hid hxor
          clear ha hc hxor
          have hlt2 : (k : Int) < (M : Int) := by omega
          go_upto_region 14 with fail
          go_region
          all_goals
            go_wp2_with fail
            go_roundw
            case rel =>
              rw [HXO.out]
              refine ⟨k + 1, by omega, by go_num, ((hrow.set k (a ^^^ c)).congr fun i hi => ?_).drew, (hbel.setCell hgge _).drew⟩
              show (if i = k then a ^^^ c else if i < k then _ else _) = _
              by_cases e : i = k
              · rw [if_pos e, if_pos (by omega), e, HA.out, HC2.out]
              · rw [if_neg e]
                by_cases e2 : i < k
                · rw [if_pos e2, if_pos (by omega)]
                · rw [if_neg e2, if_neg (by omega)]
            case measure => simp [intOf]; omega
        · obtain rfl : k = M := by omega
          have hrow1 : RowM wr w4.heap.size g k cap5 (fun i => dF salt n i ^^^ mskF h i) := hrow.congr fun i hi => by rw [if_pos hi]
          clear hrow
          go_upto_region 16 with fail
          obtain ⟨y0, hy0⟩ : ∃ y0, y0 = dF salt n 0 ^^^ mskF h 0 := ⟨_, rfl⟩
          have hy256 : y0 < 256 := by rw [hy0]; exact xor_lt (dF_lt _ _ _) (mskF_lt _ _)
          have hrow2 : RowM wr w4.heap.size g k cap5 (fun x => if x = 0 then y0 % 2 ^ (8 - 0) else dF salt n x ^^^ mskF h x) := hrow1.congr fun i hi => by
            by_cases e : i = 0
            · subst e; rw [if_pos rfl, ← hy0]; exact (Nat.mod_eq_of_lt hy256).symm
            · rw [if_neg e]
          obtain ⟨w7, rfl⟩ : ∃ w7 : World, w7 = wr := ⟨_, rfl⟩
          have HY0 := Lib.hid hy0
          clear hrow1 hy0
          go_loopw [14] (fun v wr => ∃ i : Nat, i ≤ j ∧ v = .int .i64 (b + (i : Int)) ∧ RowM wr w4.heap.size g k cap5 (fun x => if x = 0 then y0 % 2 ^ (8 - i) else dF salt n x ^^^ mskF h x) ∧ Below w4.heap.size w4 wr) (fun v _ => (b + (j : Int) - intOf v).toNat)
          case atStart => exact ⟨0, Nat.zero_le _, by simp, hrow2, hbel⟩
          case round =>
            clear hrow2 hbel
            obtain ⟨i, hi, rfl, hrow, hbel⟩ := hrel
            have hjj := HJ.out
            by_cases hlt : i < j
            · have hlt2 : b + (i : Int) < 8 * (n : Int) := by omega
              have c0 := hrow.cell 0 (by omega)
              have f0 := hrow.free 0 (by omega)
              rw [if_pos rfl] at c0
              obtain ⟨y, hy⟩ : ∃ y, y = y0 % 2 ^ (8 - i) := ⟨_, rfl⟩
              rw [← hy] at c0
              have hyl : y < 256 := by rw [hy]; exact Nat.lt_of_le_of_lt (Nat.mod_le _ _) hy256
              have HY := Lib.hid hy
              have hk0 : (0 : Int) < (k : Int) := by omega
              clear hy hjj
              go_upto_region 18 with fail
              have W1 : IntKind.i64.wrap (b + (i : Int) - b) = (i : Int) := by rw [show b + (i : Int) - b = (i : Int) by omega]; exact IntWalk.i64_in _ (by omega)
              have W2 : IntKind.i64.wrap ((i : Int) + 1) = (i : Int) + 1 := IntWalk.i64_in _ (by omega)
              have W3 : (0 : Int) ≤ (i : Int) + 1 := by omega
              have W4 : ((i : Int) + 1).toNat = i + 1 := by omega
              go_region
              all_goals
                clear W1 W2 W4
                go_wp2_with fail
                go_roundw
                case rel =>
                  have hp : 2 ^ (8 - (i + 1)) ≤ 2 ^ 8 := Nat.pow_le_pow_right (by omega) (by omega)
                  rw [first_div (i + 1) (by omega), u8_and_nat y _ hyl (by omega), Nat.and_two_pow_sub_one_eq_mod]
                  refine ⟨i + 1, by omega, by rw [Int.natCast_add, ← Int.add_assoc]; rfl, ((hrow.set 0 (y % 2 ^ (8 - (i + 1)))).congr fun x hx => ?_).drew, (hbel.setCell hgge _).drew⟩
                  show (if x = 0 then _ else if x = 0 then _ else _) = _
                  by_cases e : x = 0
                  · rw [if_pos e, if_pos e, HY.out]
                    exact Nat.mod_mod_of_dvd _ (Nat.pow_dvd_pow 2 (by omega))
                  · rw [if_neg e, if_neg e, if_neg e]
                case measure => simp [intOf]; omega
            · obtain rfl : i = j := by omega
              have hge3 : ¬ b + (i : Int) < 8 * (n : Int) := by omega
              have hrowA : RowM wr w4.heap.size g k cap5 (aF h salt n T) := hrow.congr fun x hx => by
                unfold aF
                by_cases e : x = 0
                · subst e; rw [if_pos rfl, if_pos rfl, HY0.out, HT.out]
                · rw [if_neg e, if_neg e]
              have htx := hrowA.text 0 k cap5 (by omega)
              have hfun : (fun i => aF h salt n T (0 + i)) = aF h salt n T := funext fun i => by rw [Nat.zero_add]
              rw [hfun] at htx
              obtain ⟨A, hA⟩ : ∃ A : ByteArray, A = ⟨(rowL (aF h salt n T) k).toArray⟩ := ⟨_, rfl⟩
              have hAs : A.size = k := by rw [hA, str_size, rowL_length]
              rw [← hA] at htx
              have hcat1 : ∀ w : World, (Op.stringOp .add A h).run Tryz.prog w = .ok (.string (A ++ h)) w := fun w => run_string_add_sum w A h (by rw [hAs, HHS.out]; omega)
              have hcat2 : ∀ w : World, (Op.stringOp .add (A ++ h) ⟨#[188]⟩).run Tryz.prog w = .ok (.string (A ++ h ++ ⟨#[188]⟩)) w := fun w => run_string_add_sum w _ _ (by rw [ByteArray.size_append, hAs, HHS.out]; show k + 32 + 1 ≤ _; omega)
              have hall : A ++ h ++ ⟨#[188]⟩ = r := by
                rw [HR.out, hA]
                unfold pssL
                rw [show n - 33 = k by have := HM.out; have := HMM.out; omega, show h = ByteArray.mk h.data.toList.toArray from by simp, show (⟨#[188]⟩ : ByteArray) = ByteArray.mk ([188] : List UInt8).toArray from rfl, str_append, str_append, List.append_assoc]
              have HALL := Lib.hid hall
              have hres := hbel4.trans (hbel.mono hbel4.size)
              clear hall hA hAs hfun hrowA hrow hbel hjj hlt
              go_wp2_with fail
              go_ret
              exact ⟨by rw [← HALL.out]; rfl, hres⟩
end Go.Proofs.YtjkjlbchbbpmaaaGreatDoor
/- The reference's Fits (layer 4), and RsaFits: the walks. -/
namespace Go.Proofs.YtjkjlbchbbpmaaaGreatDoor
open Go.RowKit

/-- A slice of one byte, in a soft region. -/
def One (u : Value) : Prd := fun w x => ∃ g, x = .slice (some ⟨g, 0, none⟩) 1 1 ∧ w.heap[g]? = some (.cells #[u] 5 (0, 0))
theorem stb_one (u : Value) : Stb (One u) := fun w _ _ hb ⟨g, hx, hg⟩ => ⟨g, hx, by rw [hb.block g (by have := (Array.getElem?_eq_some_iff.1 hg).1; omega)]; exact hg⟩
theorem One.news {w : World} {g x : Nat} {cs : List UInt8} (hg : w.heap[g]? = some (.cells #[.int .u8 (x : Int)] 5 (0, 0))) (hc : (cs.map fun c => Value.int .u8 (c.toNat : Nat)) = [.int .u8 (x : Int)]) :
    ∀ (j : Nat) (u : Value), (cs.map fun c => Value.int .u8 (c.toNat : Nat))[j]? = some u → w.cell? ((⟨g, 0, none⟩ : Addr).add j) = some u := by
  intro j u hj
  rw [hc] at hj
  rw [Addr.add_lit, Nat.zero_add]
  simp only [World.cell?, hg, Option.isSome_none, Bool.false_eq_true, if_false]
  rw [← Array.getElem?_toList]; exact hj
section
variable {B : Nat} {w0 ws : World} {L : List (Nat × Array Value × TypeId)} {full : List Oper} {a0 : Act} {K : Act → World → Prop} {n : Nat} {l : List Oper} {o : Oper} {Γ : Env}
theorem g_sl1 {x : Operand} {u : Int} (ho : o.op = .buildSlice 46 1 #[(0, x)]) (hx : Has ws a0 Γ x (Is (.int .u8 u)))
    (h : softG Tryz.prog B w0 ws L full a0 K n l ((o.dst, One (.int .u8 u)) :: Γ)) (hlv : Live full ws a0 Γ o := by first | exact Or.inl rfl | exact live_of rfl rfl (fun _ _ _ h => h)) : softG Tryz.prog B w0 ws L full a0 K (n + 1) (o :: l) Γ :=
  g_any (stb_one _) (fun w e _ hb hat => by
    have h1 : e x = .int .u8 u := hx w _ hb (hat x (by rw [ho]; exact Array.mem_singleton_self x))
    obtain ⟨i, hi, hz0, hz1, hz2⟩ := info_parts info8
    have h3 : (Instr.buildSlice 46 1 #[(0, Value.int .u8 u)]).run Tryz.prog w = .ok (.slice (some ⟨w.heap.size, 0, none⟩) 1 1) (w.alloc (.cells #[.int .u8 u] 5)) :=
      run_buildSlice w _ _ 1 _ _ i (.int .u8 0) Tryz.underlying46 hi hz0 (by rw [hz1]; decide) (by rw [hz1]; decide) (by rw [hz1]; kernel_rfl)
    unfold execOp
    simp only [ho]
    have h4 : (Instr.buildSlice 46 1 ((#[(0, x)] : Array (Nat × Operand)).map fun p => (p.1, e p.2))).run Tryz.prog w = .ok (.slice (some ⟨w.heap.size, 0, none⟩) 1 1) (w.alloc (.cells #[.int .u8 u] 5)) := by
      rw [← h3]; simp [h1]
    rw [Sem.run_bind, h4]
    exact ⟨⟨_, rfl, heap_alloc_new w _⟩, (Below.refl _ _).alloc (Nat.le_refl _) _⟩) h hlv
end
theorem run_xor8 (a c : Nat) (ha : a < 256) (hc : c < 256) (W : World) : (binOp .xor 5 (.int .u8 (a : Int)) (.int .u8 (c : Int))).run Tryz.prog W = .ok (.int .u8 ((a ^^^ c : Nat) : Int)) W := by
  have h1 : (binOp .xor 5 (.int .u8 (a : Int)) (.int .u8 (c : Int))).run Tryz.prog W = .ok (.int .u8 (bits .xor .u8 (a : Int) (c : Int))) W := by simp [binOp, go_sem]
  rw [h1, u8_xor_nat a c ha hc]

set_option maxRecDepth 100000 in
set_option maxHeartbeats 1600000 in
theorem rfits_form (s block : ByteArray) (b : Int) (w : World) (h : ¬ FormC block b) :
    Calls Tryz.prog 23 #[.string s, .string block, .int .i64 b] w fun e w' => e = .returned (.bool false) ∧ Below w.heap.size w w' := by
  by_cases h1 : b < 1
  · clear h
    go_enter Tryz.func23, Tryz.ntmps23
    go_wp2_with fail
    go_ret
    exact ⟨rfl, Below.refl _ _⟩
  · by_cases h2 : 4096 < b
    · clear h
      go_enter Tryz.func23, Tryz.ntmps23
      go_wp2_with fail
      go_ret
      exact ⟨rfl, Below.refl _ _⟩
    · by_cases h3 : (block.size : Int) = (b + 7) / 8
      · have h4 : (block.size : Int) < 66 := by
          unfold FormC at h
          omega
        have h5 : ((block.size : Int) != (b + 7) / 8) = false := by simp [h3]
        clear h h3
        go_enter Tryz.func23, Tryz.ntmps23
        go_wp2_with fail
        go_ret
        exact ⟨rfl, Below.refl _ _⟩
      · have h5 : ((block.size : Int) != (b + 7) / 8) = true := by simp [h3]
        clear h h3
        go_enter Tryz.func23, Tryz.ntmps23
        go_wp2_with fail
        go_ret
        exact ⟨rfl, Below.refl _ _⟩

set_option maxRecDepth 100000 in
set_option maxHeartbeats 3200000 in
theorem rfits_run (s block : ByteArray) (b : Int) (n j T : Nat) (w : World) (hs : s.size + 80 ≤ 140737488355328) (hn : block.size = n) (hn66 : 66 ≤ n) (hn512 : n ≤ 512) (h1 : 1 ≤ b) (h2 : b ≤ 4096) (h3 : (n : Int) = (b + 7) / 8) (hj : 8 * (n : Int) - b = (j : Int)) (hj7 : j ≤ 7) (hT : T = 2 ^ (8 - j)) (q : Bool)
    (hq : (block.toList == (⟨(pssL (hashIn s (saltOf block T)) (saltOf block T) n T).toArray⟩ : ByteArray).toList) = q) :
    Calls Tryz.prog 23 #[.string s, .string block, .int .i64 b] w fun e w' => e = .returned (.bool q) ∧ Below w.heap.size w w' := by
  obtain ⟨sl, hsl⟩ : ∃ sl, sl = saltOf block T := ⟨_, rfl⟩
  rw [← hsl] at hq
  have hps := fun w => rpss_any s sl b n j T w hs (by rw [hsl]; unfold saltOf; rw [str_size, rowL_length]) hn66 hn512 h1 h2 h3.symm hj hj7 hT
  obtain ⟨r, hr⟩ : ∃ r : ByteArray, r = ⟨(pssL (hashIn s sl) sl n T).toArray⟩ := ⟨_, rfl⟩
  rw [← hr] at hq hps
  obtain ⟨h, hh⟩ : ∃ h, h = hOf block := ⟨_, rfl⟩
  have hho : block.extract (n - 33) (n - 1) = h := by rw [hh]; unfold hOf; rw [hn]
  have hhs : h.size = 32 := by rw [hh]; exact hOf_size block (by omega)
  obtain ⟨M, hM⟩ : ∃ M, n = M + 33 := ⟨n - 33, by omega⟩
  have hmk := fun w => rmask_any h M w (by omega) (by omega)
  obtain ⟨kb, hkb⟩ : ∃ kb : ByteArray, kb = ⟨((mskL h 16).take M).toArray⟩ := ⟨_, rfl⟩
  have hki : ∀ i : Nat, i < M → ∀ W : World, (Instr.index 9 (.string kb) (.int .i64 (i : Int))).run Tryz.prog W = .ok (.int .u8 ((mskF h i : Nat) : Int)) W := fun i hi W => by
    have hl := mskL_length h 16
    rw [hkb, str_index _ i (by rw [str_size, List.length_take]; omega) W]
    unfold mskF
    show Result.ok (Value.int .u8 ((((mskL h 16).take M).getD i 0).toNat : Int)) W = _
    rw [List.getD_eq_getElem?_getD, List.getElem?_take_of_lt hi, List.getD_eq_getElem?_getD]
  rw [← hkb] at hmk
  have hcut : ∀ W : World, (Instr.sliceAt 9 (.string block) (some (.int .i64 ((n : Int) - 33))) (some (.int .i64 ((n : Int) - 1))) none).run Tryz.prog W = .ok (.string h) W := fun W => by
    rw [show (n : Int) - 33 = ((n - 33 : Nat) : Int) by omega, show (n : Int) - 1 = ((n - 1 : Nat) : Int) by omega, run_cut2 block (n - 33) (n - 1) (by omega) (by omega) W, hho]
  have hsz : (block.size : Int) = (n : Int) := by omega
  have h5 : ((n : Int) != (b + 7) / 8) = false := by simp [h3]
  have h1' : ¬ b < 1 := by omega
  have h2' : ¬ 4096 < b := by omega
  have h4' : ¬ (n : Int) < 66 := by omega
  have hbi : ∀ i : Nat, i < n → ∀ W : World, (Instr.index 9 (.string block) (.int .i64 (i : Int))).run Tryz.prog W = .ok (.int .u8 ((byteAt block i : Nat) : Int)) W := fun i hi W => str_index block i (by omega) W
  have hin : ∀ i, i ≠ 0 → inF block T i = byteAt block i ^^^ mskF h i := fun i hi => by unfold inF; rw [if_neg hi, hh]
  have hsalt : sl = ⟨(rowL (fun i => inF block T (n - 65 + i)) 32).toArray⟩ := by rw [hsl]; unfold saltOf; rw [hn]
  have HQ := Lib.hid hq; have HPS := Lib.hid hps; have HMK := Lib.hid hmk; have HKI := Lib.hid hki; have HCUT := Lib.hid hcut; have HBI := Lib.hid hbi; have HIN := Lib.hid hin; have HSALT := Lib.hid hsalt; have HM := Lib.hid hM
  clear hq hps hmk hki hcut hbi hin hsalt hM hkb hho hhs hh hr hsl h3 hj hT hn
  have hcut := HCUT.out
  go_enter Tryz.func23, Tryz.ntmps23
  go_upto_region 5 with fail
  clear hcut
  have hn33 : (n : Int) - 33 = (M : Int) := by have := HM.out; omega
  go_wp2_with fail
  refine (HMK.out _).mono ?_
  rintro e w1 ⟨rfl, hb1⟩
  go_upto_region 8 with fail
  have hn65 : (n : Int) - 65 = ((n - 65 : Nat) : Int) := by omega
  rw [hn65]
  have hb0 : Buf (w1.alloc (.cells #[] 5)) w1.heap.size (.slice (some ⟨w1.heap.size, 0, none⟩) 0 0) (rowL (fun i => inF block T (n - 65 + i)) 0) := buf_new w1 [] (by decide)
  obtain ⟨z, hz⟩ : ∃ z, z = n - 65 := ⟨_, rfl⟩
  rw [← hz] at hb0 ⊢
  have HZ := Lib.hid hz
  have hz1 : 1 ≤ z := by omega
  have hzM : M = z + 32 := by have := HM.out; omega
  have HZM := Lib.hid hzM
  clear hz hzM hn65
  go_loopw [10, 11] (fun sv iv wr => ∃ (t : Nat) (bw : Value), bw = sv ∧ t ≤ 32 ∧ iv = .int .i64 ((z + t : Nat) : Int) ∧ Buf wr w1.heap.size bw (rowL (fun i => inF block T (z + i)) t) ∧ Below w1.heap.size w1 wr) (fun _ iv _ => (z + 32) - (intOf iv).toNat)
  case atStart => exact ⟨0, _, rfl, Nat.zero_le _, rfl, hb0, (Below.refl _ _).alloc (Nat.le_refl _) _⟩
  case round =>
    clear hb0
    obtain ⟨t, bw, rfl, ht, rfl, hbuf, hbel⟩ := hrel
    have hsz2 := hbel.size
    obtain ⟨i, hi⟩ : ∃ i, i = z + t := ⟨_, rfl⟩
    rw [← hi]
    by_cases hlt : t < 32
    · have hlt2 : (i : Int) < (M : Int) := by have := HZM.out; omega
      obtain ⟨a, ha⟩ : ∃ a, a = byteAt block i := ⟨_, rfl⟩
      obtain ⟨c, hc⟩ : ∃ c, c = mskF h i := ⟨_, rfl⟩
      have i1 := HBI.out i (by have := HZM.out; have := HM.out; omega)
      have i2 := HKI.out i (by omega)
      rw [← ha] at i1
      rw [← hc] at i2
      have ha2 : a < 256 := by rw [ha]; exact byteAt_lt _ _
      have hc2 : c < 256 := by rw [hc]; exact mskF_lt _ _
      have hxc : inF block T i = a ^^^ c := by rw [HIN.out i (by omega), ha, hc]
      obtain ⟨c1, hc1⟩ : ∃ c1 : List UInt8, c1 = [UInt8.ofNat (a ^^^ c)] := ⟨_, rfl⟩
      have hv1 : (c1.map fun c => Value.int .u8 (c.toNat : Nat)) = [Value.int .u8 ((a ^^^ c : Nat) : Int)] := by
        rw [hc1]; simp only [List.map_cons, List.map_nil]; rw [toNat_ofNat8 _ (xor_lt ha2 hc2)]
      have hn1 : c1.length = 1 := by rw [hc1]; rfl
      have hnx : rowL (fun i => inF block T (z + i)) (t + 1) = rowL (fun i => inF block T (z + i)) t ++ c1 := by
        unfold rowL
        rw [List.range_succ, List.map_append, hc1, ← hxc, hi]; rfl
      obtain ⟨L, hL⟩ : ∃ L, L = rowL (fun i => inF block T (z + i)) t := ⟨_, rfl⟩
      have hln : L.length = t := by rw [hL, rowL_length]
      rw [← hL] at hbuf hnx
      have hxr := fun W => run_xor8 a c ha2 hc2 W
      have I1 := Lib.hid i1; have I2 := Lib.hid i2; have HV1 := Lib.hid hv1; have HN1 := Lib.hid hn1; have HNX := Lib.hid hnx; have HLN := Lib.hid hln; have HXR := Lib.hid hxr; have HI := Lib.hid hi
      clear i1 i2 hv1 hn1 hnx hln hL hc1 hxc ha hc hxr hi
      go_upto_region 10 with fail
      have hR0 := Rws.start wr
      refine wp_region_softG 9 (by kernel_rfl) (by kernel_rfl) (by rfl) hR0 ?_
      refine g_move (by rfl) (stb_is _) (by exact fun _ _ _ h => h) ?_
      refine g_move (by rfl) (stb_is _) (by exact fun _ _ _ h => h) ?_
      refine g_move (by rfl) (stb_is _) (by exact fun _ _ _ h => h) ?_
      refine g_ixs (by rfl) (by exact fun _ _ _ h => h) (by exact fun _ _ _ h => h) I1.out ?_
      refine g_move (by rfl) (stb_is _) (by exact fun _ _ _ h => h) ?_
      refine g_move (by rfl) (stb_is _) (by exact fun _ _ _ h => h) ?_
      refine g_ixs (by rfl) (by exact fun _ _ _ h => h) (by exact fun _ _ _ h => h) I2.out ?_
      refine g_bin (r := .int .u8 ((a ^^^ c : Nat) : Int)) (by rfl) (by exact fun _ _ _ h => h) (by exact fun _ _ _ h => h) (by rfl) HXR.out ?_
      refine g_sl1 (by rfl) (by exact fun _ _ _ h => h) ?_
      intro w9 hR9 hb9 v50 h50 v51 h51 v52 h52 v53 h53 v54 h54 v55 h55 v56 h56 v57 h57 v58 h58
      simp only [softEnd, Act.put, List.setIfInBounds_toArray, List.set_cons_succ, List.set_cons_zero, List.drop_succ_cons, List.drop_zero]
      clear h51 h52 h53 h54 h55 h56 h57
      obtain rfl : v50 = bw := h50
      obtain ⟨g, rfl, hg⟩ := h58
      have hbuf9 := hbuf.below hb9
      have hbel9 : Below w1.heap.size w1 w9 := hbel.trans (hb9.mono hsz2)
      have hsz9 := hbel9.size
      have HG := Lib.hid hg
      clear hg
      refine wpList_append_buf _ rfl (.tmp 50) (.tmp 58) _ rfl Tryz.underlying46 w1.heap.size _ L rfl hbuf9 ⟨g, 0, none⟩ 1 1 c1 rfl HN1.out (One.news HG.out HV1.out) (by rw [HLN.out]; omega) hsz9 w1 hbel9 ?_
      intro v2 w2 hbuf2 hbel2 _
      go_wp2_with fail
      go_roundw
      case rel => exact ⟨t + 1, _, rfl, by omega, by rw [HI.out]; go_num, by rw [HNX.out]; exact hbuf2, hbel2⟩
      case measure => have := HI.out; simp [intOf]; omega
    · obtain rfl : t = 32 := by omega
      have hge2 : ¬ (i : Int) < (M : Int) := by have := HZM.out; omega
      have hcv := run_string_buf hbuf
      rw [show (ByteArray.mk (rowL (fun i => inF block T (z + i)) 32).toArray) = sl by rw [HSALT.out, HZ.out]] at hcv
      have hq := HQ.out
      have hbel3 : Below w.heap.size w wr := hb1.trans (hbel.mono hb1.size)
      clear hi hbuf
      go_wp2_with fail
      refine (HPS.out _).mono ?_
      rintro e w5 ⟨rfl, hb5⟩
      have hres := hbel3.trans (hb5.mono hbel3.size)
      go_wp2_with fail
      go_ret
      exact ⟨rfl, hres⟩
end Go.Proofs.YtjkjlbchbbpmaaaGreatDoor
