/- strings.byteStringReplacer.Replace at the table that quotes: the walk. -/
import Derived.Test.YthpagppipifgeaaGreatDoorZLBuildR
import Derived.Test.YthpagppipifgeaaGreatDoorZLB
import Derived.Test.YthpagppipifgeaaGreatDoorZLRws2
import Derived.Test.YthpagppipifgeaaGreatDoorShelf
import Derived.BigQuiet
namespace Go.Proofs.YthpagppipifgeaaGreatDoor
open Go.RowKit

theorem neq_some2 (g c : Nat) (w : World) : (binOp BinOp.neq 51 (.slice (some ⟨g, 0, none⟩) 2 c) (.slice none 0 0)).run Tryz.prog w = .ok (.bool true) w := by kernel_rfl
theorem neq_none2 (w : World) : (binOp BinOp.neq 51 (.slice none 0 0) (.slice none 0 0)).run Tryz.prog w = .ok (.bool false) w := by kernel_rfl
/-- The table's cell of a byte. -/
def cellB (g1 c1 g2 c2 : Nat) (c : UInt8) : Value := if c = 34 then .slice (some ⟨g1, 0, none⟩) 2 c1 else if c = 92 then .slice (some ⟨g2, 0, none⟩) 2 c2 else .slice none 0 0
theorem BQ.at_ {b0 g1 c1 g2 c2 ts c : Nat} {w : World} (h : BQ b0 g1 c1 g2 c2 ts c w) (x : UInt8) : w.cell? ⟨b0, x.toNat, none⟩ = some (cellB g1 c1 g2 c2 x) := by
  obtain ⟨⟨_, ha, h34, h92, _⟩, _⟩ := h
  unfold cellB
  split
  · next e => subst e; exact h34
  · split
    · next e => subst e; exact h92
    · next e1 e2 =>
      refine ha _ (UInt8.toNat_lt x) (fun e => e1 ?_) (fun e => e2 ?_)
      · exact UInt8.toNat_inj.1 e
      · exact UInt8.toNat_inj.1 e
theorem info_u8 : (Tryz.prog.info? 5).map (fun i => (i.zero, i.size, i.bytes)) = some (some (.int .u8 0), 1, 1) := by kernel_rfl
theorem run_makeB (M : Nat) (hM : M ≤ 1000) (u : World) : (Instr.makeSlice 51 (.int .i64 M) (.int .i64 M)).run Tryz.prog u = .ok (.slice (some ⟨u.heap.size, 0, none⟩) M M) (u.alloc (.cells (madeCells #[.int .u8 0] M) 5)) := by
  obtain ⟨i0, hi, hz0, hz1, hz2⟩ := info_parts info_u8
  have h := run_make (P := Tryz.prog) u 51 5 i0 (.int .u8 0) Tryz.underlying51 hi hz0 .i64 .i64 M M (by omega) (by omega) (by rw [hz2]; omega) (by omega)
  simpa [hz1, Value.cells] using h
theorem run_makeB' (M : Nat) (hM : M ≤ 100000 := by omega) (u : World) : (Instr.makeSlice 51 (.int .i64 M) (.int .i64 M)).run Tryz.prog u = .ok (.slice (some ⟨u.heap.size, 0, none⟩) M M) (u.alloc (.cells (madeCells #[.int .u8 0] M) 5)) := by
  obtain ⟨i0, hi, hz0, hz1, hz2⟩ := info_parts info_u8
  have h := run_make (P := Tryz.prog) u 51 5 i0 (.int .u8 0) Tryz.underlying51 hi hz0 .i64 .i64 M M (by omega) (by omega) (by rw [hz2]; omega) (by omega)
  simpa [hz1, Value.cells] using h
theorem quote_part {l : List UInt8} {i : Nat} {x : UInt8} (hx : l[i]? = some x) : quoteL (l.take (i + 1)) = quoteL (l.take i) ++ quoteC x ∧ (quoteL (l.take i)).length + (quoteC x).length ≤ (quoteL l).length := by
  obtain ⟨hi, rfl⟩ := List.getElem?_eq_some_iff.1 hx
  have e : quoteL (l.take (i + 1)) = quoteL (l.take i) ++ quoteC l[i] := by rw [take_snoc hi, quote_snoc]
  refine ⟨e, ?_⟩
  have h2 : quoteL l = quoteL (l.take (i + 1)) ++ quoteL (l.drop (i + 1)) := by
    unfold quoteL
    rw [← List.flatMap_append, List.take_append_drop]
  rw [h2, e]
  simp only [List.length_append]
  omega
theorem row_put (D E : List UInt8) (rest : List Value) : ((bvs D ++ rest).toArray.toList.take D.length ++ (bvs E ++ (bvs D ++ rest).toArray.toList.drop (D.length + (bvs E).length))).toArray = (bvs (D ++ E) ++ rest.drop E.length).toArray := by
  congr 1
  have h1 : (bvs D).length = D.length := bvs_len D
  have h2 : (bvs E).length = E.length := bvs_len E
  rw [List.toList_toArray, ← h1, List.take_left, bvs_app, List.append_assoc, h2, ← List.drop_drop, List.drop_left]
/-- Bytes copied into a row of one's own. -/
theorem run_copyB {B g M c1 ga : Nat} {w0 w : World} {D : List UInt8} {rest : List Value} (E : List UInt8) (h : Rws B w0 w [(g, (bvs D ++ rest).toArray, 5)]) (hM : D.length + rest.length = M) (hE : D.length + E.length ≤ M)
    (hs : ∀ j v, (bvs E)[j]? = some v → w.cell? ((⟨ga, 0, none⟩ : Addr).add j) = some v) :
    ∃ w3, (Builtin.copy_ #[51, 51] 3 #[.slice (some ⟨g, D.length, none⟩) (M - D.length) (M - D.length), .slice (some ⟨ga, 0, none⟩) E.length c1]).run Tryz.prog w = .ok (goInt E.length) w3 ∧ Rws B w0 w3 [(g, (bvs (D ++ E) ++ rest.drop E.length).toArray, 5)] := by
  have h1 := run_copy_row (P := Tryz.prog) w 51 51 3 5 g D.length (M - D.length) (M - D.length) ⟨ga, 0, none⟩ E.length c1 _ _ (bvs E) Tryz.underlying51 (by kernel_rfl) (h.row _ (List.Mem.head _)).2 (by rw [bvs_len]; exact (Nat.min_eq_left (by omega)).symm) hs (by simp [bvs_len]; omega) (bvs_cells _)
  rw [bvs_len] at h1
  refine ⟨_, h1, ?_⟩
  have := h.set (g := g) Pick.here (bvs (D ++ E) ++ rest.drop E.length).toArray
  have e := row_put D E rest
  rw [bvs_len] at e
  show Rws B w0 (w.setRow g (List.take D.length (bvs D ++ rest).toArray.toList ++ bvs E ++ List.drop (D.length + E.length) (bvs D ++ rest).toArray.toList).toArray) _
  rw [List.append_assoc, e]
  exact this
theorem row_set (D : List UInt8) (x : UInt8) (rest : List Value) (h : 1 ≤ rest.length) : (bvs D ++ rest).toArray.setIfInBounds D.length (.int .u8 ((x.toNat : Nat) : Int)) = (bvs (D ++ [x]) ++ rest.drop 1).toArray := by
  apply Array.ext'
  rw [Array.toList_setIfInBounds]
  cases rest with
  | nil => simp at h
  | cons y r =>
    have h1 : (bvs D).length = D.length := bvs_len D
    show List.set (bvs D ++ y :: r) D.length _ = _
    rw [List.set_append_right _ _ (by omega), h1, Nat.sub_self, bvs_app]
    simp [bvs]
theorem run_textB (g M : Nat) (D : List UInt8) (u : World) (hM : D.length = M) (hc : ∀ j v, (bvs D)[j]? = some v → u.cell? ((⟨g, 0, none⟩ : Addr).add j) = some v) : (convert 51 9 (.slice (some ⟨g, 0, none⟩) M M)).run Tryz.prog u = .ok (.string (bs D)) u := by
  subst hM
  exact run_convert_bytes_back (P := Tryz.prog) u 51 9 5 ⟨g, 0, none⟩ D.length D Tryz.underlying51 Tryz.underlying5 Tryz.underlying9 (fun j hj => hc j _ (by
    rw [bvs, List.getElem?_map, List.getElem?_eq_getElem (by simpa using hj)]; rfl))
theorem spc_next {l : List UInt8} {i : Nat} {x : UInt8} (hx : l[i]? = some x) : spc (l.take (i + 1)) = spc (l.take i) + (if spC x then 1 else 0) := by
  obtain ⟨hi, rfl⟩ := List.getElem?_eq_some_iff.1 hx
  rw [take_snoc hi, spc_snoc]
set_option maxRecDepth 100000 in
set_option maxHeartbeats 4000000 in
theorem brep_any (b0 g1 c1 g2 c2 ts c : Nat) (l : List UInt8) (w : World) (hq : BQ b0 g1 c1 g2 c2 ts c w) (hs : l.length ≤ 64) :
    Calls Tryz.prog 188 #[.pointer (some ⟨b0, 0, none⟩), .string (bs l)] w (RetS (bs (quoteL l)) w) := by
  have HQ := Lib.hid hq
  have q256 := hq.1.2.2.2.2
  have hns := neq_some2
  have hnn := neq_none2
  have hsz := bs_size l
  have hdt : (bs l).data.toList = l := by simp [bs]
  have hspl : spc l ≤ l.length := List.countP_le_length
  clear hq
  go_enter Tryz.func188, Tryz.ntmps188
  go_upto_if 26 with fail
  go_cut [5, 6] (fun s5 s6 wx => s5 = .int .i64 ((l.length + spc l : Nat) : Int) ∧ s6 = .bool (decide (0 < spc l)) ∧ Below w.heap.size w wx)
  case first =>
    by_cases h16 : 16 ≤ l.length
    · have h16z : (16 : Int) ≤ (l.length : Int) := by omega
      have hcs := count_spc l
      obtain ⟨n92, hn92⟩ : ∃ n, n = l.count 92 := ⟨_, rfl⟩
      obtain ⟨n34, hn34⟩ : ∃ n, n = l.count 34 := ⟨_, rfl⟩
      have H92 : Hid (∀ wx, Calls Tryz.prog 190 #[.string (bs l), .string ⟨#[92]⟩] wx fun e w' => e = .returned (.int .i64 (n92 : Int)) ∧ w' = wx) := Lib.hid fun wx => by
        have := Tryz.strings_Count_one (bs l) 92 wx
        rw [hdt] at this
        rw [hn92]; exact this
      have H34 : Hid (∀ wx, Calls Tryz.prog 190 #[.string (bs l), .string ⟨#[34]⟩] wx fun e w' => e = .returned (.int .i64 (n34 : Int)) ∧ w' = wx) := Lib.hid fun wx => by
        have := Tryz.strings_Count_one (bs l) 34 wx
        rw [hdt] at this
        rw [hn34]; exact this
      rw [← hn92, ← hn34] at hcs
      have hg92 : ((⟨#[92]⟩ : ByteArray)[0]'(by decide)).toNat = 92 := rfl
      have hg34 : ((⟨#[34]⟩ : ByteArray)[0]'(by decide)).toNat = 34 := rfl
      clear hn92 hn34
      rw [decide_eq_true h16z]
      clear h16z
      go_upto_region 5 with fail
      go_loopg [5, 6, 8, 9, 32] 2 (fun gg s5 s6 s8 s9 s32 wr => ∃ (kk a : Nat), kk + gg = 2 ∧ s32 = .int .i64 kk ∧ s5 = .int .i64 ((l.length + a : Nat) : Int) ∧ s6 = .bool (decide (0 < a)) ∧ a ≤ 64 ∧ Aside (a = if kk = 0 then 0 else if kk = 1 then n92 else n92 + n34) ∧ Aside (Below w.heap.size w wr))
      case atStart => exact ⟨0, 0, rfl, rfl, rfl, rfl, by omega, rfl, Below.refl _ _⟩
      case round =>
        obtain ⟨kk, a, hkk, rfl, rfl, rfl, ha64, HA, BW⟩ := hrel
        have hQr := HQ.out.below BW.out
        have q0 := hQr.2.2.2.1
        have q1 := hQr.2.2.2.2.1
        have q34 : wr.cell? ⟨b0, 34, none⟩ = some (.slice (some ⟨g1, 0, none⟩) 2 c1) := hQr.at_ 34
        have q92 : wr.cell? ⟨b0, 92, none⟩ = some (.slice (some ⟨g2, 0, none⟩) 2 c2) := hQr.at_ 92
        clear hQr
        rcases (by omega : kk = 0 ∨ kk = 1 ∨ kk = 2) with rfl | rfl | rfl
        · obtain rfl : a = 0 := HA.out
          by_cases h92 : n92 = 0
          · subst h92
            go_wp2_with (go_at_call 190; refine (H92.out _).mono ?_; rintro e w' ⟨rfl, rfl⟩)
            go_roundg 1
            case measure => omega
            case rel => exact ⟨1, 0, rfl, rfl, by go_num, by simp, by omega, rfl, BW.out⟩
          · have hz : ((n92 : Int) != 0) = true := by simp; omega
            have hz1 : 0 < n92 := by omega
            go_upto_region 9 with (go_at_call 190; refine (H92.out _).mono ?_; rintro e w' ⟨rfl, rfl⟩)
            go_quiet (fail)
            go_wp2_with fail
            go_roundg 1
            case measure => omega
            case rel => exact ⟨1, n92, rfl, rfl, by go_num, by simp; omega, by omega, rfl, below_drawn BW.out _⟩
        · obtain rfl : a = n92 := HA.out
          clear H92
          by_cases h34 : n34 = 0
          · subst h34
            go_wp2_with (go_at_call 190; refine (H34.out _).mono ?_; rintro e w' ⟨rfl, rfl⟩)
            go_roundg 0
            case measure => omega
            case rel => exact ⟨2, a, rfl, rfl, by go_num, by simp, by omega, rfl, BW.out⟩
          · have hz : ((n34 : Int) != 0) = true := by simp; omega
            have hz1 : 0 < n34 := by omega
            go_upto_region 9 with (go_at_call 190; refine (H34.out _).mono ?_; rintro e w' ⟨rfl, rfl⟩)
            go_quiet (fail)
            go_wp2_with fail
            go_roundg 0
            case measure => omega
            case rel => exact ⟨2, a + n34, rfl, rfl, by go_num, by simp; omega, by omega, rfl, below_drawn BW.out _⟩
        · obtain rfl : a = n92 + n34 := HA.out
          rw [hcs]
          go_wp2_with fail
          go_meet
          exact ⟨rfl, rfl, BW.out⟩
    · have h16z : ¬ (16 : Int) ≤ (l.length : Int) := by omega
      rw [decide_eq_false h16z]
      clear h16z h16
      go_upto_region 13 with fail
      go_loopg [5, 6, 10, 11] l.length (fun gg s5 s6 s10 s11 wr => ∃ (i a : Nat), i ≤ l.length ∧ gg = l.length - i ∧ s10 = .int .i64 i ∧ s5 = .int .i64 ((l.length + a : Nat) : Int) ∧ s6 = .bool (decide (0 < a)) ∧ a ≤ i ∧ Aside (a = spc (l.take i)) ∧ Aside (Below w.heap.size w wr))
      case atStart => exact ⟨0, 0, by omega, rfl, rfl, rfl, rfl, by omega, rfl, Below.refl _ _⟩
      case round =>
        obtain ⟨i, a, hil, rfl, rfl, rfl, rfl, hai, HA, BW⟩ := hrel
        by_cases hlt : i < l.length
        · have hltz : (i : Int) < (l.length : Int) := by omega
          obtain ⟨x, hx⟩ : ∃ x, l[i]? = some x := ⟨l[i], by simp [hlt]⟩
          have hgi := bs_get l i x hx
          have hnx := spc_next hx
          have hQr := HQ.out.below BW.out
          have qx := hQr.at_ x
          have hx256 : x.toNat < 256 := UInt8.toNat_lt x
          rw [← HA.out] at hnx
          clear hx hQr
          by_cases x34 : x = 34
          · subst x34
            replace qx : wr.cell? ⟨b0, 34, none⟩ = some (.slice (some ⟨g1, 0, none⟩) 2 c1) := qx
            replace hnx : spc (l.take (i + 1)) = a + 1 := hnx
            have HN := Lib.hid hnx
            clear hnx
            go_wp2_with fail
            go_roundg (l.length - (i + 1))
            case measure => omega
            case rel => exact ⟨i + 1, a + 1, hlt, rfl, by go_num, by go_num, by simp, by omega, HN.out.symm, BW.out⟩
          · by_cases x92 : x = 92
            · subst x92
              replace qx : wr.cell? ⟨b0, 92, none⟩ = some (.slice (some ⟨g2, 0, none⟩) 2 c2) := qx
              replace hnx : spc (l.take (i + 1)) = a + 1 := hnx
              have HN := Lib.hid hnx
              clear hnx
              go_wp2_with fail
              go_roundg (l.length - (i + 1))
              case measure => omega
              case rel => exact ⟨i + 1, a + 1, hlt, rfl, by go_num, by go_num, by simp, by omega, HN.out.symm, BW.out⟩
            · replace qx : wr.cell? ⟨b0, x.toNat, none⟩ = some (.slice none 0 0) := by rw [qx]; unfold cellB; rw [if_neg x34, if_neg x92]
              replace hnx : spc (l.take (i + 1)) = a := by rw [hnx]; simp [spC, x34, x92]
              have HN := Lib.hid hnx
              clear hnx
              go_wp2_with fail
              go_roundg (l.length - (i + 1))
              case measure => omega
              case rel => exact ⟨i + 1, a, hlt, rfl, by go_num, by go_num, rfl, by omega, HN.out.symm, BW.out⟩
        · have hltz : ¬ (i : Int) < (l.length : Int) := by omega
          obtain rfl : i = l.length := by omega
          have ha : a = spc l := by rw [HA.out, List.take_length]
          subst ha
          go_wp2_with fail
          go_meet
          exact ⟨rfl, rfl, BW.out⟩
  case rest =>
  obtain ⟨rfl, rfl, hb1⟩ := hcut
  have HB1 := Lib.hid hb1
  clear hb1
  by_cases h0 : spc l = 0
  · have hq0 := quote_none h0
    rw [h0]
    go_wp2_with fail
    go_ret
    rw [hq0]
    exact ⟨rfl, HB1.out⟩
  have h0' : decide (0 < spc l) = true := by simp; omega
  rw [h0']
  clear h0'
  have hql := quote_len l
  obtain ⟨M, hM⟩ : ∃ M, M = l.length + spc l := ⟨_, rfl⟩
  rw [← hM] at hql ⊢
  have hM1 : 1 ≤ M := by omega
  have hM2 : M ≤ 128 := by omega
  have HM := Lib.hid hM
  clear hM h0 hspl
  have hmk := run_makeB M (by omega)
  go_upto_region 24 with fail
  have hR := (Rws.start wc).alloc (madeCells #[.int .u8 0] M) 5
  have hml : (madeCells #[Value.int .u8 0] M).toList.length = M := by simp [madeCells]
  have HR := Lib.hid hR
  obtain ⟨zs, hzs⟩ : ∃ zs, zs = (madeCells #[Value.int .u8 0] M).toList := ⟨_, rfl⟩
  have e0 : madeCells #[Value.int .u8 0] M = zs.toArray := by rw [hzs]
  rw [e0] at HR ⊢
  rw [← hzs] at hml
  clear hR hmk e0 hzs
  obtain ⟨wn, hwn⟩ : ∃ wn, wn = wc.alloc (.cells zs.toArray 5) := ⟨_, rfl⟩
  obtain ⟨g, hg⟩ : ∃ g, g = wc.heap.size := ⟨_, rfl⟩
  rw [← hwn] at HR ⊢
  rw [← hg] at HR ⊢
  have HG := Lib.hid hg
  clear hwn hg
  go_loopg [13, 14, 15] l.length (fun gg s13 s14 s15 wr => ∃ (i : Nat) (D : List UInt8) (rest : List Value), i ≤ l.length ∧ gg = l.length - i ∧ s13 = .int .i64 D.length ∧ s14 = .int .i64 i ∧ D.length + rest.length = M ∧ Aside (D = quoteL (l.take i)) ∧ Aside (Rws g wc wr [(g, (bvs D ++ rest).toArray, 5)]))
  case atStart => exact ⟨0, [], zs, by omega, rfl, rfl, rfl, by simpa using hml, rfl, HR.out⟩
  case round =>
    obtain ⟨i, D, rest, hil, rfl, rfl, rfl, hDl, HD, HR2⟩ := hrel
    by_cases hlt : i < l.length
    · have hltz : (i : Int) < (l.length : Int) := by omega
      obtain ⟨x, hx⟩ : ∃ x, l[i]? = some x := ⟨l[i], by simp [hlt]⟩
      have hgi := bs_get l i x hx
      obtain ⟨hnx, hnl⟩ := quote_part hx
      have hQr := HQ.out.below (b_trans HB1.out (HG.out ▸ HR2.out.below))
      have qx := hQr.at_ x
      have hx256 : x.toNat < 256 := UInt8.toNat_lt x
      rw [← HD.out] at hnx hnl
      rw [hql] at hnl
      clear HD hx
      by_cases x34 : x = 34
      · subst x34
        have qa := hQr.2.1
        clear hQr
        replace qx : wr.cell? ⟨b0, 34, none⟩ = some (.slice (some ⟨g1, 0, none⟩) 2 c1) := qx
        have hDM : D.length + 2 ≤ M := hnl
        replace hnx : quoteL (l.take (i + 1)) = D ++ [92, 34] := hnx
        have HN := Lib.hid hnx
        have hDz : (D.length : Int) ≤ (M : Int) := by omega
        clear hnx hnl
        go_upto_region 28 with fail
        have hR := HR2.out
        obtain ⟨w3, hcp, hR3⟩ := run_copyB (c1 := c1) (ga := g1) [92, 34] hR.drew hDl hDM (fun j v hj => by
          match j, hj with
          | 0, hj => simp [bvs] at hj; subst hj; exact (World.cell?_drew ..).trans qa.1
          | 1, hj => simp [bvs] at hj; subst hj; exact (World.cell?_drew ..).trans qa.2)
        have hcp : (Builtin.copy_ #[51, 51] 3 #[.slice (some ⟨g, D.length, none⟩) (M - D.length) (M - D.length), .slice (some ⟨g1, 0, none⟩) 2 c1]).run Tryz.prog wr.drew = .ok (.int .i64 2) w3 := hcp
        have HR3 := Lib.hid hR3
        clear hR hR3 HR2
        go_region
        go_wp2_with fail
        go_roundg (l.length - (i + 1))
        case measure => omega
        case rel => exact ⟨i + 1, D ++ [92, 34], rest.drop 2, hlt, rfl, by simp, by go_num, by simp; omega, HN.out.symm, HR3.out⟩
      · by_cases x92 : x = 92
        · subst x92
          have qa := hQr.2.2.1
          clear hQr
          replace qx : wr.cell? ⟨b0, 92, none⟩ = some (.slice (some ⟨g2, 0, none⟩) 2 c2) := qx
          have hDM : D.length + 2 ≤ M := hnl
          replace hnx : quoteL (l.take (i + 1)) = D ++ [92, 92] := hnx
          have HN := Lib.hid hnx
          have hDz : (D.length : Int) ≤ (M : Int) := by omega
          clear hnx hnl
          go_upto_region 28 with fail
          have hR := HR2.out
          obtain ⟨w3, hcp, hR3⟩ := run_copyB (c1 := c2) (ga := g2) [92, 92] hR.drew hDl hDM (fun j v hj => by
            match j, hj with
            | 0, hj => simp [bvs] at hj; subst hj; exact (World.cell?_drew ..).trans qa.1
            | 1, hj => simp [bvs] at hj; subst hj; exact (World.cell?_drew ..).trans qa.2)
          have hcp : (Builtin.copy_ #[51, 51] 3 #[.slice (some ⟨g, D.length, none⟩) (M - D.length) (M - D.length), .slice (some ⟨g2, 0, none⟩) 2 c2]).run Tryz.prog wr.drew = .ok (.int .i64 2) w3 := hcp
          have HR3 := Lib.hid hR3
          clear hR hR3 HR2
          go_region
          go_wp2_with fail
          go_roundg (l.length - (i + 1))
          case measure => omega
          case rel => exact ⟨i + 1, D ++ [92, 92], rest.drop 2, hlt, rfl, by simp, by go_num, by simp; omega, HN.out.symm, HR3.out⟩
        · replace qx : wr.cell? ⟨b0, x.toNat, none⟩ = some (.slice none 0 0) := by rw [qx]; unfold cellB; rw [if_neg x34, if_neg x92]
          have hqc : quoteC x = [x] := by unfold quoteC; rw [if_neg x34, if_neg x92]
          rw [hqc] at hnx hnl
          have hDM : D.length + 1 ≤ M := hnl
          have HN := Lib.hid hnx
          have hDz : (D.length : Int) < (M : Int) := by omega
          have hrs := row_set D x rest (by omega)
          have hRw := HR2.out
          clear hnx hnl hQr HR2 hqc x34 x92
          go_wp2_with (refine wR_storec rfl (by rfl) (by assumption) (by rfl) (by rfl) Pick.here rfl (by kernel_rfl) (by simp [bvs_len]; omega) rfl hrs ?_; intro w3 hR3)
          go_roundg (l.length - (i + 1))
          case measure => omega
          case rel => exact ⟨i + 1, D ++ [x], rest.drop 1, hlt, rfl, by simp, by go_num, by simp; omega, HN.out.symm, hR3⟩
    · have hltz : ¬ (i : Int) < (l.length : Int) := by omega
      obtain rfl : i = l.length := by omega
      have hD : D = quoteL l := by rw [HD.out, List.take_length]
      have hr0 : rest = [] := by
        apply List.eq_nil_of_length_eq_zero
        rw [hD] at hDl; omega
      subst hr0
      have hcv := run_textB g M D wr (by rw [hD]; exact hql) (fun j v hj => by
        have := HR2.out.cellAt (List.Mem.head _) j (v := v) (by simpa using hj)
        rw [Addr.add_lit, Nat.zero_add]; exact this)
      have hfin : Below w.heap.size w wr := b_trans HB1.out (HG.out ▸ HR2.out.below)
      have HF := Lib.hid (And.intro hD hfin)
      clear hD hfin HR2 HD
      go_wp2_with fail
      go_ret
      exact ⟨congrArg (fun x => Ending.returned (.string (bs x))) HF.out.1, HF.out.2⟩
end Go.Proofs.YthpagppipifgeaaGreatDoor
