/- HWrite0 HWrite, in one text. -/
import Derived.Test.YtjkjlbchbbpmaaaGreatDoorZH0
import Derived.Test.YtjkjlbchbbpmaaaGreatDoorZH9
import Derived.Lib.SlBuf
import Derived.Test.YtjkjlbchbbpmaaaGreatDoorZH1
/- hash: laws for Write: keys, copies out of a text. -/
namespace Go.Proofs.YtjkjlbchbbpmaaaGreatDoor
open Go.RowKit

theorem run_remi {P : Program} {t : TypeId} {n : Nat} (w : World) : (binOp .rem t (.int .i64 (n : Int)) (.int .i64 64)).run P w = .ok (.int .i64 ((n % 64 : Nat) : Int)) w := by
  have e : Int.tmod (n : Int) 64 = ((n % 64 : Nat) : Int) := by
    rw [Int.tmod_eq_emod_of_nonneg (by omega)]; omega
  simp [binOp, Op.intDiv, e]
theorem Rws.join {B : Nat} {w0 w w' : World} {L L2 : List (Nat × Array Value × TypeId)} (h : Rws B w0 w L) (h2 : Rws w.heap.size w w' L2) : Rws B w0 w' (L2 ++ L) := by
  have hc := h.call h2.below
  refine ⟨hc.below, hc.len, fun x hx => ?_, ?_⟩
  · rcases List.mem_append.1 hx with hx | hx
    · exact ⟨Nat.le_trans h.len (h2.row x hx).1, (h2.row x hx).2⟩
    · exact hc.row x hx
  · refine List.pairwise_append.2 ⟨h2.nd, h.nd, fun x hx y hy e => ?_⟩
    have a := (h2.row x hx).1
    have b := h.lt hy
    omega
theorem kRow_get (j : Nat) (hj : j < 64) : kRow[j]? = some (.int .u32 ((kF j : Nat) : Int)) := by
  have h : ∀ j, j < 64 → kList[j]? = some (kRoots.getD j 0) := by decide +kernel
  unfold kRow kF
  rw [List.getElem?_toArray, List.getElem?_map, h j hj]
  rfl

/-- The first n bytes of a text, as cells. -/
def byV (r : ByteArray) (n : Nat) : List Value := (List.range n).map fun j => Value.int .u8 (((r.data.toList.getD j 0).toNat : Nat) : Int)
theorem byV_length (r : ByteArray) (n : Nat) : (byV r n).length = n := by simp [byV]
theorem byV_get (r : ByteArray) {n j : Nat} (h : j < n) : (byV r n)[j]? = some (.int .u8 (((r.data.toList.getD j 0).toNat : Nat) : Int)) := by simp [byV, h]
theorem byV_data (r : ByteArray) (n : Nat) (hn : n ≤ r.size) : ((r.extract 0 n).data.map fun b => Value.int .u8 (b.toNat : Int)).toList = byV r n := by
  apply List.ext_getElem?
  intro j
  have hl : r.data.toList.length = r.size := by simp
  rw [Array.toList_map, List.getElem?_map, ByteArray.data_extract, Array.toList_extract, List.extract_eq_take_drop, List.drop_zero, Nat.sub_zero, List.getElem?_take]
  by_cases h : j < n
  · rw [if_pos h, byV_get r h, List.getElem?_eq_getElem (by omega), List.getD_eq_getElem?_getD, List.getElem?_eq_getElem (by omega)]
    rfl
  · rw [if_neg h, List.getElem?_eq_none (by rw [byV_length]; omega)]
    rfl
section
variable {B : Nat} {w0 w w' : World} {L L' : List (Nat × Array Value × TypeId)}
variable {P : Program} {o : Oper} {a : Act} {Q : Exit → Act → World → Prop} {ops : Array Oper} {rest : List Oper}
/-- 'copy' of a text into a row. -/
theorem wR_copyS {d s : Operand} {dT sT elem t : TypeId} {g off dLen dCap n : Nat} {r : ByteArray} {cur new : Array Value} (hgd : o.guard = none) (ho : o.op = .call { callee := .builtin .copy, args := #[d, s], argTypes := #[dT, sT] }) (h : Rws B w0 w L)
    (hd : a.eval d = .slice (some ⟨g, off, none⟩) dLen dCap) (hs : a.eval s = .string r) (hm : Pick L (g, cur, t) L') (hu : P.underlying dT = some (.slice elem)) (hsz : (P.info? elem).map (·.size) = some 1)
    (hn : n = Nat.min r.size dLen) (hfit : off + n ≤ cur.size) (hnew : (cur.toList.take off ++ byV r n ++ cur.toList.drop (off + (byV r n).length)).toArray = new)
    (hK : ∀ w', Rws B w0 w' ((g, new, t) :: L') → wpList P ops Q rest (a.put o.dst (goInt n)) w') : wpList P ops Q (o :: rest) a w := by
  have hs1 := run_storeCells_at P g off t (byV r n) 0 cur w (h.row _ hm.mem).2 (by rw [byV_length]; omega) (fun v hv => by
    unfold byV at hv
    obtain ⟨j, _, rfl⟩ := List.mem_map.1 hv
    rfl)
  simp only [Nat.add_zero] at hs1
  have h0 : (sizeOf elem).run P w = .ok 1 w := by
    cases hq : P.info? elem with
    | none => simp [hq] at hsz
    | some i =>
      have : i.size = 1 := by simpa [hq] using hsz
      simp [sizeOf, typeInfo, hq, this, Sem.run_bind]
  have hle : n ≤ r.size := by rw [hn]; exact Nat.min_le_left _ _
  have hrun : (Builtin.copy_ #[dT, sT] o.type #[.slice (some ⟨g, off, none⟩) dLen dCap, .string r]).run P w = .ok (goInt n) (w.setRow g new) := by
    have hb := byV_data r n hle
    simp [Builtin.copy_, Builtin.lenOf, Builtin.firstCells, Sem.run_bind, run_underlying hu, h0, ← hn, Result.andThen] at *
    rw [hb, hs1]
    simp [hnew]
  exact Lib.wpList_copy_run w hgd d s dT sT ho _ _ hd hs hrun (hK _ (h.set hm new))
end
end Go.Proofs.YtjkjlbchbbpmaaaGreatDoor
/- hash: Write, at 32 bits. -/
namespace Go.Proofs.YtjkjlbchbbpmaaaGreatDoor
open Go.RowKit

set_option maxRecDepth 100000 in
set_option maxHeartbeats 1600000 in
theorem keys64_any (w : World) : Calls Tryz.prog 123 #[] w fun e w' => ∃ g, e = .returned (.slice (some ⟨g, 0, none⟩) 80 80) ∧ Below w.heap.size w w' := by
  go_enter Tryz.func123, Tryz.ntmps123
  go_wp2_with fail
  go_ret
  exact ⟨_, rfl, (Below.refl _ _).alloc (Nat.le_refl _) _⟩

/-- A byte of a text. -/
def bt (s : ByteArray) (j : Nat) : Nat := (s.data.toList.getD j 0).toNat
theorem bt_lt (s : ByteArray) (j : Nat) : bt s j < 256 := UInt8.toNat_lt _
theorem bt_extract (r : ByteArray) (m j : Nat) : bt (r.extract m r.size) j = bt r (m + j) := by
  unfold bt
  rw [ByteArray.data_extract, Array.toList_extract, List.extract_eq_take_drop, List.getD_eq_getElem?_getD, List.getD_eq_getElem?_getD, List.getElem?_take]
  have hl : r.data.toList.length = r.size := by simp
  by_cases h : j < r.size - m
  · rw [if_pos h, List.getElem?_drop]
  · rw [if_neg h, List.getElem?_eq_none (by omega)]
def vlen : Value → Nat
  | .string s => s.size
  | _ => 0
theorem hc_0 (v bl : Nat → Nat) (n : Nat) : (hc v bl n)[0]? = some (.int .i64 32) := rowF_get _ (by omega)
theorem hc_13 (v bl : Nat → Nat) (n : Nat) : (hc v bl n)[13]? = some (.int .i64 64) := rowF_get _ (by omega)
theorem hc_15 (v bl : Nat → Nat) (n : Nat) : (hc v bl n)[15]? = some (.int .i64 8) := rowF_get _ (by omega)
theorem run_gtr0 {P : Program} {t : TypeId} {x : Nat} (b : Bool) (h : b = decide (0 < x)) (w : World) : (binOp .gtr t (.int .i64 (x : Int)) (.int .i64 0)).run P w = .ok (.bool b) w := by
  subst h
  simp [binOp, Op.intCmp]

set_option maxRecDepth 100000 in
set_option maxHeartbeats 3200000 in
theorem write_any {B : Nat} {w0 w : World} {L : List (Nat × Array Value × TypeId)} (M : Nat → Nat) (g n0 : Nat) (v0 bl0 : Nat → Nat) (s : ByteArray) (hR : Rws B w0 w ((g, hc v0 bl0 n0, 169) :: L)) (hst : HSt M n0 v0 bl0) (hbl : ∀ j, bl0 j < 256)
    (hM : ∀ j, j < s.size → bt s j = M (n0 + j)) (hs : s.size ≤ 281474976710656) (hn : n0 ≤ 281474976710656) :
    Calls Tryz.prog 88 #[.pointer (some ⟨g, 0, none⟩), .string s] w fun e w' => e = .returned (.tuple #[]) ∧ ∃ v bl gk, HSt M (n0 + s.size) v bl ∧ (∀ j, bl j < 256) ∧ Rws B w0 w' ((g, hc v bl (n0 + s.size), 169) :: (gk, kRow, 60) :: L) := by
  have HST := Lib.hid hst; have HBL := Lib.hid hbl; have HM := Lib.hid hM
  clear hst hbl hM
  go_enter Tryz.func88, Tryz.ntmps88
  go_wp2_with fail
  refine (keys32_any _).mono ?_
  rintro e w1 ⟨gk, rfl, h2⟩
  have hR1 := (hR.join h2).front (Pick.there Pick.here)
  clear h2 hR
  go_wp2_with fail
  refine (keys64_any _).mono ?_
  rintro e w2 ⟨g64, rfl, hb⟩
  have hR2 := hR1.call hb
  clear hb hR1
  go_wp2_with fail
  go_loopw [1] (fun tv wr => ∃ (k : Nat) (r : ByteArray) (v bl : Nat → Nat), tv = .string r ∧ k + r.size = s.size ∧ (∀ j, bt r j = bt s (k + j)) ∧ (∀ j, bl j < 256) ∧ HSt M (n0 + k) v bl ∧ Rws B w0 wr ((g, hc v bl (n0 + k), 169) :: (gk, kRow, 60) :: L)) (fun tv _ => vlen tv)
  case atStart => exact ⟨0, s, v0, bl0, rfl, by omega, fun j => by rw [Nat.zero_add], HBL.out, HST.out, hR2⟩
  case round =>
    clear hR2
    obtain ⟨k, r, v, bl, rfl, hkr, hrs, hbl, hst, hR⟩ := hrel
    by_cases hr0 : r.size = 0
    · have e : r = ⟨#[]⟩ := by
        cases r with
        | mk d => congr 1; exact Array.eq_empty_of_size_eq_zero hr0
      subst e
      have ek : k = s.size := hkr
      have HK := Lib.hid ek; have HB := Lib.hid hbl
      clear hkr hrs ek hbl
      go_wp2_with fail
      go_end0
      exact ⟨rfl, v, bl, gk, by rw [← HK.out]; exact hst, HB.out, by rw [← HK.out]; exact hR⟩
    · have hne : r.toList.isEmpty = false := by
        rw [Go.ByteArray.toList_eq]
        cases h : r.data.toList with
        | nil => exact absurd (by have := congrArg List.length h; simpa using this) hr0
        | cons _ _ => rfl
      obtain ⟨N, hN⟩ : ∃ N, N = n0 + k := ⟨_, rfl⟩
      obtain ⟨a, ha⟩ : ∃ a, a = N % 64 := ⟨_, rfl⟩
      obtain ⟨m, hm⟩ : ∃ m, m = Nat.min r.size (64 - a) := ⟨_, rfl⟩
      have hN2 : N ≤ 562949953421312 := by omega
      have ha64 : a < 64 := by omega
      have hmr : m ≤ r.size := by rw [hm]; exact Nat.min_le_left _ _
      have hma : a + m ≤ 64 := by
        have h2 : m ≤ 64 - a := by rw [hm]; exact Nat.min_le_right _ _
        omega
      have hm0 : 0 < m := by rw [hm]; exact Nat.lt_min.2 ⟨by omega, by omega⟩
      have hrl : r.size ≤ 281474976710656 := by omega
      rw [← hN] at hst hR
      have hvl : ∀ j, v j < 4294967296 := hst.lt
      have hbn : ∀ j, layB bl (bt r) a m j < 256 := layB_lt hbl (bt_lt r) a m
      have hrm : ∀ j, j < m → bt r j = M (N + j) := fun j hj => by rw [hrs, HM.out _ (by omega), hN, Nat.add_assoc]
      have hv : vlen (.string r) = r.size := rfl
      obtain ⟨c64, h64⟩ : ∃ c, c = 64 - a := ⟨_, rfl⟩
      obtain ⟨c128, h128⟩ : ∃ c, c = 128 - a := ⟨_, rfl⟩
      have hcut : ∀ w : World, (Instr.sliceAt 167 (.pointer (some ⟨g, 32, none⟩)) (some (.int .i64 (a : Int))) (some (.int .i64 ((64 : Nat) : Int))) none).run Tryz.prog w = .ok (.slice (some ⟨g, 32 + a, none⟩) c64 c128) w := fun w => by
        have h := run_cutA (P := Tryz.prog) (t := 167) (g := g) (k := 32) (n := 128) (l := a) (h := 64) Tryz.underlying167 (by rfl) (by kernel_rfl) (by omega) (by omega) (by omega) w
        rw [← h64, ← h128] at h
        exact h
      have hgt : decide (64 ≤ a + m) = !decide (0 < (N + m) % 64) := by
        rcases Nat.lt_or_ge (a + m) 64 with h | h
        · rw [decide_eq_false (by omega), decide_eq_true (by omega)]; rfl
        · rw [decide_eq_true h, decide_eq_false (by omega)]; rfl
      have HA := Lib.hid ha; have HCUT := Lib.hid hcut; have HVL := Lib.hid hvl; have HBN := Lib.hid hbn; have HRM := Lib.hid hrm; have HRS := Lib.hid hrs; have HB := Lib.hid hbl; have HKR := Lib.hid hkr; have HN := Lib.hid hN; have HM2 := Lib.hid hm; have H64 := Lib.hid h64
      clear ha hcut hvl hbn hrm hrs hbl hkr hN hm h64 h128
      go_upto_region 2 with (fail)
      refine wp_region_calm 20 (by rfl) (by kernel_rfl) (by assumption) ?_
      refine lexC_move rfl rfl ?_
      simp only [Act.put, List.setIfInBounds_toArray, List.set_cons_succ, List.set_cons_zero]
      refine lexC_nil rfl rfl ?_
      simp only [Act.put, List.setIfInBounds_toArray, List.set_cons_succ, List.set_cons_zero]
      refine lexC_field rfl rfl Tryz.underlying169 rfl ⟨127, by kernel_rfl⟩ rfl ?_
      simp only [Act.put, List.setIfInBounds_toArray, List.set_cons_succ, List.set_cons_zero]
      refine lexC_move rfl rfl ?_
      simp only [Act.put, List.setIfInBounds_toArray, List.set_cons_succ, List.set_cons_zero]
      refine lexC_nil rfl rfl ?_
      simp only [Act.put, List.setIfInBounds_toArray, List.set_cons_succ, List.set_cons_zero]
      refine lexC_field rfl rfl Tryz.underlying169 rfl ⟨0, by kernel_rfl⟩ rfl ?_
      simp only [Act.put, List.setIfInBounds_toArray, List.set_cons_succ, List.set_cons_zero]
      refine lexC_word (k := 160) (v := .int .i64 ((N : Nat) : Int)) rfl rfl (by repeat (first | exact List.Mem.head _ | refine List.Mem.tail _ ?_)) (hc_n _ _ _) isAgg_int ?_
      simp only [Act.put, List.setIfInBounds_toArray, List.set_cons_succ, List.set_cons_zero]
      refine lexC_move rfl rfl ?_
      simp only [Act.put, List.setIfInBounds_toArray, List.set_cons_succ, List.set_cons_zero]
      refine lexC_nil rfl rfl ?_
      simp only [Act.put, List.setIfInBounds_toArray, List.set_cons_succ, List.set_cons_zero]
      refine lexC_field rfl rfl Tryz.underlying169 rfl ⟨15, by kernel_rfl⟩ rfl ?_
      simp only [Act.put, List.setIfInBounds_toArray, List.set_cons_succ, List.set_cons_zero]
      refine lexC_field rfl rfl Tryz.underlying163 rfl ⟨0, by kernel_rfl⟩ rfl ?_
      simp only [Act.put, List.setIfInBounds_toArray, List.set_cons_succ, List.set_cons_zero]
      refine lexC_word (k := 13) (v := .int .i64 64) rfl rfl (by repeat (first | exact List.Mem.head _ | refine List.Mem.tail _ ?_)) (hc_13 _ _ _) isAgg_int ?_
      simp only [Act.put, List.setIfInBounds_toArray, List.set_cons_succ, List.set_cons_zero]
      refine lexC_bin rfl rfl rfl run_remi (fun _ => rfl) ?_
      simp only [Act.put, List.setIfInBounds_toArray, List.set_cons_succ, List.set_cons_zero]
      refine lexC_move rfl rfl ?_
      simp only [Act.put, List.setIfInBounds_toArray, List.set_cons_succ, List.set_cons_zero]
      refine lexC_nil rfl rfl ?_
      simp only [Act.put, List.setIfInBounds_toArray, List.set_cons_succ, List.set_cons_zero]
      refine lexC_field rfl rfl Tryz.underlying169 rfl ⟨15, by kernel_rfl⟩ rfl ?_
      simp only [Act.put, List.setIfInBounds_toArray, List.set_cons_succ, List.set_cons_zero]
      refine lexC_field rfl rfl Tryz.underlying163 rfl ⟨0, by kernel_rfl⟩ rfl ?_
      simp only [Act.put, List.setIfInBounds_toArray, List.set_cons_succ, List.set_cons_zero]
      refine lexC_word (k := 13) (v := .int .i64 64) rfl rfl (by repeat (first | exact List.Mem.head _ | refine List.Mem.tail _ ?_)) (hc_13 _ _ _) isAgg_int ?_
      simp only [Act.put, List.setIfInBounds_toArray, List.set_cons_succ, List.set_cons_zero]
      refine lexC_cut (v := .slice (some ⟨g, 32 + a, none⟩) c64 c128) (l0 := some (.int .i64 (a : Int))) (h0 := some (.int .i64 ((64 : Nat) : Int))) rfl rfl (by rw [HA.out]; rfl) rfl HCUT.out ?_
      simp only [Act.put, List.setIfInBounds_toArray, List.set_cons_succ, List.set_cons_zero]
      refine lexC_move rfl rfl ?_
      simp only [Act.put, List.setIfInBounds_toArray, List.set_cons_succ, List.set_cons_zero]
      refine lexC_zero ?_; simp only [List.take_succ_cons, List.take_zero, List.drop_succ_cons, List.drop_zero]; (repeat (first | (refine aN_cons (by rfl) ?_; intro g; simp only [Act.put, List.setIfInBounds_toArray, List.set_cons_succ, List.set_cons_zero]) | (refine afterAl_skip (by rfl) ?_))); refine afterAl_nil ?_; intro w1 hR
      have hsetb := hc_setb v bl (bt r) N a m (byV r m) (byV_length r m) (fun j hj => byV_get r hj) (by omega)
      refine wR_copyS (n := m) (dCap := c128) (dLen := c64) rfl rfl (by assumption) rfl rfl Pick.here Tryz.underlying46 (by kernel_rfl) (by rw [HM2.out, H64.out]) (by rw [hc_size]; omega) hsetb ?_
      intro w3 hR3
      clear hsetb
      obtain ⟨bl2, hbl2⟩ : ∃ b, b = layB bl (bt r) a m := ⟨_, rfl⟩
      rw [← hbl2] at hR3
      have HBN2 : Hid (∀ j, bl2 j < 256) := by rw [hbl2]; exact HBN.out
      have HB2 := Lib.hid hbl2
      clear hbl2 hR
      rw [show goInt m = .int .i64 (m : Int) from rfl]
      have HSN : Hid ((hc v bl2 N).setIfInBounds 160 (.int .i64 ((N + m : Nat) : Int)) = hc v bl2 (N + m)) := hc_setn v bl2 N (N + m)
      go_upto_region 6 with (first
        | (refine wR_loadc rfl (by rfl) (by assumption) rfl (by repeat (first | exact List.Mem.head _ | refine List.Mem.tail _ ?_)) (hc_n _ _ _) isAgg_int ?_)
        | (refine wR_storec (v := .int .i64 ((N + m : Nat) : Int)) rfl (by rfl) (by assumption) rfl (by rfl) Pick.here rfl int_info (by rw [hc_size]; omega) rfl HSN.out ?_; intro w4 hR4))
      have hrs2 : ∀ j, bt (r.extract m r.size) j = bt s (k + m + j) := fun j => by rw [bt_extract, HRS.out, Nat.add_assoc]
      have hsz2 : k + m + (r.extract m r.size).size = s.size := by
        rw [ByteArray.size_extract, Nat.min_self]
        have := HKR.out
        omega
      have hN2' : N + m = n0 + (k + m) := by rw [HN.out, Nat.add_assoc]
      have hlt2 : vlen (.string (r.extract m r.size)) < vlen (.string r) := by
        show (r.extract m r.size).size < r.size
        rw [ByteArray.size_extract, Nat.min_self]; omega
      by_cases hpart : a + m < 64
      · have hst2 : HSt M (n0 + (k + m)) v bl2 := by
          rw [← hN2', HB2.out, HA.out]
          exact hst.more (by have := HA.out; omega) HRM.out
        have HGT : Hid (true = decide (0 < (N + m) % 64)) := by
          have := HA.out
          exact (decide_eq_true (by omega)).symm
        have HST2 := Lib.hid hst2; have HRS2 := Lib.hid hrs2; have HSZ2 := Lib.hid hsz2; have HN2 := Lib.hid hN2'; have HLT2 := Lib.hid hlt2
        clear hst2 hrs2 hsz2 hN2' hlt2 hgt hv
        refine wp_region_calm 11 (by rfl) (by kernel_rfl) (by assumption) ?_
        refine lexC_move rfl rfl ?_
        simp only [Act.put, List.setIfInBounds_toArray, List.set_cons_succ, List.set_cons_zero]
        refine lexC_nil rfl rfl ?_
        simp only [Act.put, List.setIfInBounds_toArray, List.set_cons_succ, List.set_cons_zero]
        refine lexC_field rfl rfl Tryz.underlying169 rfl ⟨0, by kernel_rfl⟩ rfl ?_
        simp only [Act.put, List.setIfInBounds_toArray, List.set_cons_succ, List.set_cons_zero]
        refine lexC_word (k := 160) (v := .int .i64 ((N + m : Nat) : Int)) rfl rfl (by repeat (first | exact List.Mem.head _ | refine List.Mem.tail _ ?_)) (hc_n _ _ _) isAgg_int ?_
        simp only [Act.put, List.setIfInBounds_toArray, List.set_cons_succ, List.set_cons_zero]
        refine lexC_move rfl rfl ?_
        simp only [Act.put, List.setIfInBounds_toArray, List.set_cons_succ, List.set_cons_zero]
        refine lexC_nil rfl rfl ?_
        simp only [Act.put, List.setIfInBounds_toArray, List.set_cons_succ, List.set_cons_zero]
        refine lexC_field rfl rfl Tryz.underlying169 rfl ⟨15, by kernel_rfl⟩ rfl ?_
        simp only [Act.put, List.setIfInBounds_toArray, List.set_cons_succ, List.set_cons_zero]
        refine lexC_field rfl rfl Tryz.underlying163 rfl ⟨0, by kernel_rfl⟩ rfl ?_
        simp only [Act.put, List.setIfInBounds_toArray, List.set_cons_succ, List.set_cons_zero]
        refine lexC_word (k := 13) (v := .int .i64 64) rfl rfl (by repeat (first | exact List.Mem.head _ | refine List.Mem.tail _ ?_)) (hc_13 _ _ _) isAgg_int ?_
        simp only [Act.put, List.setIfInBounds_toArray, List.set_cons_succ, List.set_cons_zero]
        refine lexC_bin rfl rfl rfl run_remi (fun _ => rfl) ?_
        simp only [Act.put, List.setIfInBounds_toArray, List.set_cons_succ, List.set_cons_zero]
        refine lexC_bin rfl rfl rfl (run_gtr0 true HGT.out) (fun _ => rfl) ?_
        simp only [Act.put, List.setIfInBounds_toArray, List.set_cons_succ, List.set_cons_zero]
        refine lexC_zero ?_; simp only [List.take_succ_cons, List.take_zero, List.drop_succ_cons, List.drop_zero]; (repeat (first | (refine aN_cons (by rfl) ?_; intro g; simp only [Act.put, List.setIfInBounds_toArray, List.set_cons_succ, List.set_cons_zero]) | (refine afterAl_skip (by rfl) ?_))); refine afterAl_nil ?_; intro w1 hR
        go_wp2_with fail
        go_roundw
        case rel => exact ⟨k + m, _, v, bl2, rfl, HSZ2.out, HRS2.out, HBN2.out, HST2.out, by rw [← HN2.out]; exact hR⟩
        case measure => exact HLT2.out
      · obtain ⟨u, hu⟩ : ∃ u, u = next32 v bl2 := ⟨_, rfl⟩
        have hst2 : HSt M (n0 + (k + m)) u bl2 := by
          rw [← hN2', hu, HB2.out, HA.out]
          exact hst.full (by have := HA.out; omega) HRM.out _
        have HGT : Hid (false = decide (0 < (N + m) % 64)) := by
          have := HA.out
          exact (decide_eq_false (by omega)).symm
        have hsetv := hc_setv v bl2 (N + m) u
        have HST2 := Lib.hid hst2; have HRS2 := Lib.hid hrs2; have HSZ2 := Lib.hid hsz2; have HN2 := Lib.hid hN2'; have HLT2 := Lib.hid hlt2; have HU := Lib.hid hu; have HSETV := Lib.hid hsetv
        clear hst2 hrs2 hsz2 hN2' hlt2 hgt hv hu hsetv
        refine wp_region_calm 11 (by rfl) (by kernel_rfl) (by assumption) ?_
        refine lexC_move rfl rfl ?_
        simp only [Act.put, List.setIfInBounds_toArray, List.set_cons_succ, List.set_cons_zero]
        refine lexC_nil rfl rfl ?_
        simp only [Act.put, List.setIfInBounds_toArray, List.set_cons_succ, List.set_cons_zero]
        refine lexC_field rfl rfl Tryz.underlying169 rfl ⟨0, by kernel_rfl⟩ rfl ?_
        simp only [Act.put, List.setIfInBounds_toArray, List.set_cons_succ, List.set_cons_zero]
        refine lexC_word (k := 160) (v := .int .i64 ((N + m : Nat) : Int)) rfl rfl (by repeat (first | exact List.Mem.head _ | refine List.Mem.tail _ ?_)) (hc_n _ _ _) isAgg_int ?_
        simp only [Act.put, List.setIfInBounds_toArray, List.set_cons_succ, List.set_cons_zero]
        refine lexC_move rfl rfl ?_
        simp only [Act.put, List.setIfInBounds_toArray, List.set_cons_succ, List.set_cons_zero]
        refine lexC_nil rfl rfl ?_
        simp only [Act.put, List.setIfInBounds_toArray, List.set_cons_succ, List.set_cons_zero]
        refine lexC_field rfl rfl Tryz.underlying169 rfl ⟨15, by kernel_rfl⟩ rfl ?_
        simp only [Act.put, List.setIfInBounds_toArray, List.set_cons_succ, List.set_cons_zero]
        refine lexC_field rfl rfl Tryz.underlying163 rfl ⟨0, by kernel_rfl⟩ rfl ?_
        simp only [Act.put, List.setIfInBounds_toArray, List.set_cons_succ, List.set_cons_zero]
        refine lexC_word (k := 13) (v := .int .i64 64) rfl rfl (by repeat (first | exact List.Mem.head _ | refine List.Mem.tail _ ?_)) (hc_13 _ _ _) isAgg_int ?_
        simp only [Act.put, List.setIfInBounds_toArray, List.set_cons_succ, List.set_cons_zero]
        refine lexC_bin rfl rfl rfl run_remi (fun _ => rfl) ?_
        simp only [Act.put, List.setIfInBounds_toArray, List.set_cons_succ, List.set_cons_zero]
        refine lexC_bin rfl rfl rfl (run_gtr0 false HGT.out) (fun _ => rfl) ?_
        simp only [Act.put, List.setIfInBounds_toArray, List.set_cons_succ, List.set_cons_zero]
        refine lexC_zero ?_; simp only [List.take_succ_cons, List.take_zero, List.drop_succ_cons, List.drop_zero]; (repeat (first | (refine aN_cons (by rfl) ?_; intro g; simp only [Act.put, List.setIfInBounds_toArray, List.set_cons_succ, List.set_cons_zero]) | (refine afterAl_skip (by rfl) ?_))); refine afterAl_nil ?_; intro w1 hR
        go_upto_region 8 with (refine wR_loadc rfl (by rfl) (by assumption) rfl (by repeat (first | exact List.Mem.head _ | refine List.Mem.tail _ ?_)) (hc_0 _ _ _) isAgg_int ?_)
        refine wp_region_calm 17 (by rfl) (by kernel_rfl) (by assumption) ?_
        refine lexC_move rfl rfl ?_
        simp only [Act.put, List.setIfInBounds_toArray, List.set_cons_succ, List.set_cons_zero]
        refine lexC_move rfl rfl ?_
        simp only [Act.put, List.setIfInBounds_toArray, List.set_cons_succ, List.set_cons_zero]
        refine lexC_nil rfl rfl ?_
        simp only [Act.put, List.setIfInBounds_toArray, List.set_cons_succ, List.set_cons_zero]
        refine lexC_field rfl rfl Tryz.underlying169 rfl ⟨7, by kernel_rfl⟩ rfl ?_
        simp only [Act.put, List.setIfInBounds_toArray, List.set_cons_succ, List.set_cons_zero]
        refine lexC_load (k := 16) (vs := wc 8 v) rfl rfl (by repeat (first | exact List.Mem.head _ | refine List.Mem.tail _ ?_)) Tryz.underlying165 rfl (by rw [wc_size]; exact w8_info) (hc_v _ _ _) ?_
        simp only [Act.put, List.setIfInBounds_toArray, List.set_cons_succ, List.set_cons_zero]
        refine lexC_move rfl rfl ?_
        simp only [Act.put, List.setIfInBounds_toArray, List.set_cons_succ, List.set_cons_zero]
        refine lexC_nil rfl rfl ?_
        simp only [Act.put, List.setIfInBounds_toArray, List.set_cons_succ, List.set_cons_zero]
        refine lexC_field rfl rfl Tryz.underlying169 rfl ⟨127, by kernel_rfl⟩ rfl ?_
        simp only [Act.put, List.setIfInBounds_toArray, List.set_cons_succ, List.set_cons_zero]
        refine lexC_cut (v := .slice (some ⟨g, 32, none⟩) 64 128) (l0 := none) (h0 := some (.int .i64 ((64 : Nat) : Int))) rfl rfl rfl rfl (run_cutAh (t := 167) (k := 32) (n := 128) (h := 64) Tryz.underlying167 (by rfl) (by kernel_rfl) (by omega) (by omega)) ?_
        simp only [Act.put, List.setIfInBounds_toArray, List.set_cons_succ, List.set_cons_zero]
        refine lexC_move rfl rfl ?_
        simp only [Act.put, List.setIfInBounds_toArray, List.set_cons_succ, List.set_cons_zero]
        refine lexC_move rfl rfl ?_
        simp only [Act.put, List.setIfInBounds_toArray, List.set_cons_succ, List.set_cons_zero]
        refine lexC_nil rfl rfl ?_
        simp only [Act.put, List.setIfInBounds_toArray, List.set_cons_succ, List.set_cons_zero]
        refine lexC_field rfl rfl Tryz.underlying169 rfl ⟨15, by kernel_rfl⟩ rfl ?_
        simp only [Act.put, List.setIfInBounds_toArray, List.set_cons_succ, List.set_cons_zero]
        refine lexC_load (k := 0) (vs := kc32) rfl rfl (by repeat (first | exact List.Mem.head _ | refine List.Mem.tail _ ?_)) Tryz.underlying163 rfl kind_info (hc_k _ _ _) ?_
        simp only [Act.put, List.setIfInBounds_toArray, List.set_cons_succ, List.set_cons_zero]
        refine lexC_call (v := .agg (wc 8 u)) rfl Tryz.func124 (by kernel_rfl) rfl rfl (fun w' hw' => by rw [HU.out]; exact next_any v bl2 g 32 128 gk w' HVL.out HBN2.out (fun j hj => hw'.cellAt (List.Mem.head _) (32 + j) (hc_b _ _ _ j (by omega))) (hw'.lt (List.Mem.head _)) (by omega) (fun j hj => hw'.cellAt (List.Mem.tail _ (List.Mem.head _)) j (kRow_get j hj)) (hw'.lt (List.Mem.tail _ (List.Mem.head _)))) ?_
        simp only [Act.put, List.setIfInBounds_toArray, List.set_cons_succ, List.set_cons_zero]
        refine lexC_nil rfl rfl ?_
        simp only [Act.put, List.setIfInBounds_toArray, List.set_cons_succ, List.set_cons_zero]
        refine lexC_field rfl rfl Tryz.underlying169 rfl ⟨7, by kernel_rfl⟩ rfl ?_
        simp only [Act.put, List.setIfInBounds_toArray, List.set_cons_succ, List.set_cons_zero]
        refine lexC_zero ?_; simp only [List.take_succ_cons, List.take_zero, List.drop_succ_cons, List.drop_zero]; (repeat (first | (refine aN_cons (by rfl) ?_; intro g; simp only [Act.put, List.setIfInBounds_toArray, List.set_cons_succ, List.set_cons_zero]) | (refine afterAl_skip (by rfl) ?_))); refine afterAl_nil ?_; intro w1 hR
        refine wR_store (k := 16) (vs := (wc 8 u).toList) rfl rfl (by assumption) rfl rfl Pick.here rfl (by rw [Array.length_toList, wc_size]; exact w8_info) (by rw [Array.length_toList, wc_size, hc_size]; omega) (fun x hx => Array.all_eq_true_iff_forall_mem.1 (wc_cells 8 u) x (Array.mem_toList_iff.1 hx)) HSETV.out ?_
        intro w5 hR5
        simp only [Act.put]
        go_wp2_with fail
        go_roundw
        case rel => exact ⟨k + m, _, u, bl2, rfl, HSZ2.out, HRS2.out, HBN2.out, HST2.out, by rw [← HN2.out]; exact hR5⟩
        case measure => exact HLT2.out
end Go.Proofs.YtjkjlbchbbpmaaaGreatDoor
