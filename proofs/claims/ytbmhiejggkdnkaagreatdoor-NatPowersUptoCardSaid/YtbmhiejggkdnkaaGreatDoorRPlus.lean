/- The reference's Plus, Minus, half: the walks. -/
import Derived.Test.YtbmhiejggkdnkaaGreatDoorRCmp
import Derived.Test.YtbmhiejggkdnkaaGreatDoorDigOps
import Derived.StillTailTactics
import Derived.IntWalk
namespace Go.Proofs.YtbmhiejggkdnkaaGreatDoor
open Go.RowKit

/-- The value is a slice of the call's own (blocks from B on) that holds these numbers. -/
def NBuf (w : World) (B : Nat) (v : Value) (l : List Nat) : Prop :=
  w.ownsRow B 30 1 v l.length (l.map fun c => Value.int .u64 (c : Nat))
theorem NBuf.own {w : World} {B : Nat} {v : Value} {l : List Nat} (h : NBuf w B v l) : w.ownsRow B 30 1 v l.length (l.map fun c => Value.int .u64 (c : Nat)) := h
theorem num_cells (l : List Nat) : ∀ u ∈ (l.map fun c => Value.int .u64 (c : Nat)), u.oneCell' = true := by
  intro u hu
  obtain ⟨c, _, rfl⟩ := List.mem_map.1 hu
  rfl
theorem NBuf.below {w w' : World} {B : Nat} {v : Value} {l : List Nat} (h : NBuf w B v l) (hb : Below w.heap.size w w') : NBuf w' B v l := by
  obtain ⟨h1, h2⟩ := h
  refine ⟨h1, ?_⟩
  rcases h2 with h2 | ⟨g, cap, cur, hv, hg, hh, r⟩
  · exact Or.inl h2
  · exact Or.inr ⟨g, cap, cur, hv, hg, by rw [hb.block g (by have := (Array.getElem?_eq_some_iff.1 hh).1; omega)]; exact hh, r⟩
theorem NBuf.drewN {w : World} {B : Nat} {v : Value} {l : List Nat} (h : NBuf w B v l) (q : Nat) : NBuf (w.drewN q) B v l := h

/-- 'append(b, x)' of a number. -/
theorem wpList_append_num (w : World) {ops : Array Oper} {rest : List Oper} {o : Oper} {a : Act} {Q : Exit → Act → World → Prop} (hgd : o.guard = none) (s x : Operand) (t : TypeId)
    (ho : o.op = .call { callee := .builtin .append, args := #[s, x], argTypes := #[t, t] }) (ht : Tryz.prog.underlying t = some (.slice 30)) (B : Nat) (v : Value) (l : List Nat) (hs : a.eval s = v) (hb : NBuf w B v l)
    (ad : Addr) (y : Nat) (c : Nat) (hx : a.eval x = .slice (some ad) 1 c) (hnews : ∀ (j : Nat) u, ([y].map fun c => Value.int .u64 (c : Nat))[j]? = some u → w.cell? (ad.add j) = some u)
    (hlen : l.length + 1 ≤ 17592186044416) (hbase : B ≤ w.heap.size) (w0 : World) (hw0 : Below B w0 w)
    (h : ∀ v' w', NBuf w' B v' (l ++ [y]) → Below B w0 w' → wpList Tryz.prog ops Q rest (a.put o.dst v') w') : wpList Tryz.prog ops Q (o :: rest) a w := by
  obtain ⟨i, hi, hz0, hz1, hz2⟩ := info_parts info64
  refine wpList_append_own w hgd s x t ho B 30 i (.int .u64 0) 1 8 ht hi hz0 hz1 hz2 rfl (by decide) v l.length _ hs hb ad 1 c ([y].map fun c => Value.int .u64 (c : Nat)) hx rfl hnews (num_cells [y]) (by unfold maxLen; omega) (by omega) hbase ?_
  intro v' w' hown hgr _
  refine h v' w' ?_ (hw0.grown hgr hbase ?_)
  · unfold NBuf
    rw [List.length_append, List.map_append]; exact hown
  · intro k hk
    exact (hb.lt k hk).1
theorem newn {w : World} {y : Nat} {v : Value} (h : Value.int .u64 (y : Nat) = v) :
    ∀ (j : Nat) (u : Value), ([y].map fun c => Value.int .u64 (c : Nat))[j]? = some u → (w.alloc (.cells #[v] 30)).cell? ((⟨w.heap.size, 0, none⟩ : Addr).add j) = some u := by
  rw [← h]; exact new_cells w #[.int .u64 (y : Nat)] 30

/-- The digits from the lowest on, so many. -/
def dl (v k : Nat) : List Nat := (List.range k).map (Dg.dg DB v)
theorem dl_length (v k : Nat) : (dl v k).length = k := by simp [dl]
theorem dl_succ (v k : Nat) : dl v (k + 1) = dl v k ++ [Dg.dg DB v k] := by simp [dl, List.range_succ]
theorem NBuf.rd {w : World} {B : Nat} {s : Value} {v k : Nat} (h : NBuf w B s (dl v k)) : ∃ bo cap, s = .slice bo k cap ∧ Rd w .u64 bo k cap (Dg.dg DB v) := by
  have hown := h.own
  obtain ⟨h1, ⟨h2, h3⟩ | ⟨g, cap, cur, hv, hg, hh, hnc, hcm, _⟩⟩ := h
  · rw [dl_length] at h3
    subst h3
    exact ⟨none, 0, h2, Rd.nil _ _ _⟩
  · rw [dl_length] at hv hnc
    refine ⟨some ⟨g, 0, none⟩, cap, hv, Sh.some _ _ _, hnc, by simpa [maxLen] using hcm, fun j hj => ?_⟩
    rw [hv, dl_length] at hown
    rw [blk_some, off_some, Nat.zero_add, hown.cellAt j (by omega)]
    simp [dl, hj]
theorem dl_eq {v u k : Nat} (h : ∀ j, j < k → Dg.dg DB v j = Dg.dg DB u j) : dl v k = dl u k := by
  unfold dl
  refine List.map_congr_left fun j hj => h j ?_
  simpa using hj

set_option maxRecDepth 100000 in
set_option maxHeartbeats 1600000 in
theorem rplus_any (ao bo : Option Addr) (n c m d a b : Nat) (w : World) (ha : RN w ao n c a) (hb : RN w bo m d b) (hn : n ≤ 10000000) (hm : m ≤ 10000000) :
    Calls Tryz.prog 33 #[.slice ao n c, .slice bo m d] w (RetRN w (a + b)) := by
  obtain ⟨K, hK⟩ : ∃ K, K = max n m := ⟨_, rfl⟩
  have hal : a < DB ^ K := Nat.lt_of_lt_of_le ha.lt (Nat.pow_le_pow_right DBpos (by omega))
  have hbl : b < DB ^ K := Nat.lt_of_lt_of_le hb.lt (Nat.pow_le_pow_right DBpos (by omega))
  have hKl : K ≤ 10000000 := by omega
  have hmx : max (n : Int) (m : Int) = (K : Int) := by rw [hK]; omega
  have HAL := Lib.hid hal; have HBL := Lib.hid hbl
  clear hal hbl hK
  go_enter Tryz.func33, Tryz.ntmps33
  go_wp2_with fail
  have hbuf1 : NBuf (w.alloc (.cells #[] 30)) w.heap.size (.slice (some ⟨w.heap.size, 0, none⟩) 0 0) (dl (a + b) 0) :=
    ⟨rfl, Or.inr ⟨w.heap.size, 0, #[], rfl, Nat.le_refl _, by simpa using heap_alloc_new w (.cells #[] 30), Nat.le_refl _, by decide, rfl, rfl⟩⟩
  have hb1 : Below w.heap.size w (w.alloc (.cells #[] 30)) := (Below.refl _ _).alloc (Nat.le_refl _) _
  go_loopw [5, 6, 7] (fun bv cv iv wr => ∃ k cr : Nat, k ≤ K + 1 ∧ iv = .int .i64 k ∧ cv = .int .u64 cr ∧ cr ≤ 1 ∧ Hid (cr = Dg.cy DB a b k) ∧ NBuf wr w.heap.size bv (dl (a + b) k) ∧ Below w.heap.size w wr) (fun _ _ iv _ => K + 1 - (intOf iv).toNat)
  case atStart => exact ⟨0, 0, Nat.zero_le _, rfl, rfl, Nat.zero_le _, (Dg.cy_zero _ _ _).symm, hbuf1, hb1⟩
  case round =>
    obtain ⟨k, cr, hk, rfl, rfl, hcr1, hcr, hbuf, hbel⟩ := hrel
    clear hbuf1 hb1
    have hsz := hbel.size
    by_cases hkK : k ≤ K
    · obtain ⟨d1, hd1⟩ : ∃ d, d = Dg.dg DB a k := ⟨_, rfl⟩
      obtain ⟨d2, hd2⟩ : ∃ d, d = Dg.dg DB b k := ⟨_, rfl⟩
      have hl1 : d1 < 65536 := by rw [hd1]; exact Dg.dg_lt DBpos _ _
      have hl2 : d2 < 65536 := by rw [hd2]; exact Dg.dg_lt DBpos _ _
      have S := Dg.cy_step DB a b k DBpos
      rw [← hd1, ← hd2, ← hcr.out, DB_eq] at S
      have D1 : ∀ w', RN w' ao n c a → Calls Tryz.prog 52 #[.slice ao n c, .int .i64 k] w' fun e w2 => e = .returned (.int .u64 (d1 : Nat)) ∧ w' = w2 := fun w' h => by rw [hd1]; exact digit_any _ _ _ _ _ _ h (by omega)
      have D2 : ∀ w', RN w' bo m d b → Calls Tryz.prog 52 #[.slice bo m d, .int .i64 k] w' fun e w2 => e = .returned (.int .u64 (d2 : Nat)) ∧ w' = w2 := fun w' h => by rw [hd2]; exact digit_any _ _ _ _ _ _ h (by omega)
      have ha' := ha.below hbel (Nat.le_refl _)
      have hb' := hb.below hbel (Nat.le_refl _)
      obtain ⟨y, hy⟩ : ∃ y, y = (d1 + d2 + cr) % 65536 := ⟨_, rfl⟩
      have hyv : Value.int .u64 (y : Nat) = .int .u64 (((cr : Int) + ((d1 : Int) + (d2 : Int))) % 65536) := by rw [hy]; congr 1; omega
      have hdl : dl (a + b) (k + 1) = dl (a + b) k ++ [y] := by
        have S1 : Dg.dg DB (a + b) k = (d1 + d2 + cr) % 65536 := S.1
        rw [dl_succ, hy, S1]
      have hln : (dl (a + b) k).length + 1 ≤ 17592186044416 := by rw [dl_length]; omega
      have HS := Lib.hid S; have HD1 := Lib.hid D1; have HD2 := Lib.hid D2; have HYV := Lib.hid hyv; have HDL := Lib.hid hdl; have HLN := Lib.hid hln
      clear S D1 D2 hyv hdl hln hd1 hd2 hy
      go_wp2_with fail
      refine (HD1.out _ ha').mono ?_
      rintro e w' ⟨rfl, rfl⟩
      go_wp2_with fail
      refine (HD2.out _ hb').mono ?_
      rintro e w' ⟨rfl, rfl⟩
      go_wp2_with (at_builtin; refine wpList_append_num _ rfl (.tmp 27) (.tmp 30) _ rfl Tryz.underlying28 w.heap.size _ (dl (a + b) k) rfl (hbuf.below ((Below.refl _ _).alloc (Nat.le_refl _) _)) ⟨wr.heap.size, 0, none⟩ y 1 rfl (newn HYV.out) HLN.out (by simp; omega) w (hbel.alloc (by omega) _) ?_; intro v2 w2 hbuf2 hbel2)
      go_roundw
      case rel => exact ⟨k + 1, (d1 + d2 + cr) / 65536, by omega, by go_num, by congr 1; omega, by omega, HS.out.2.symm, by rw [HDL.out]; exact hbuf2, hbel2⟩
      case measure => simp [intOf]; omega
    · obtain rfl : k = K + 1 := by omega
      obtain ⟨so, cap, rfl, hrd⟩ := hbuf.rd
      have hlt : a + b < DB ^ (K + 1) := by
        have h3 : DB ^ K * 2 ≤ DB ^ (K + 1) := by rw [Nat.pow_succ]; exact Nat.mul_le_mul_left _ DB2
        have := HAL.out; have := HBL.out; omega
      have HLT := Lib.hid hlt; clear hlt
      have hkk : ¬ (((K + 1 : Nat) : Int) ≤ (K : Int)) := by omega
      go_wp2_with (go_at_call 30; refine (rtrim_num _ _ _ _ _ hrd HLT.out).mono ?_; rintro e w' ⟨k, rfl, hnum, rfl⟩)
      go_ret
      exact ⟨_, _, _, rfl, hnum, hbel⟩

set_option maxRecDepth 100000 in
set_option maxHeartbeats 1600000 in
theorem rminus_any (ao bo : Option Addr) (n c m d a b : Nat) (w : World) (ha : RN w ao n c a) (hb : RN w bo m d b) (hba : b ≤ a) (hn : n ≤ 10000000) (_hm : m ≤ 10000000) :
    Calls Tryz.prog 32 #[.slice ao n c, .slice bo m d] w (RetRN w (a - b)) := by
  have hal : a < DB ^ n := ha.lt
  have HAL := Lib.hid hal; clear hal
  go_enter Tryz.func32, Tryz.ntmps32
  go_wp2_with fail
  have hbuf1 : NBuf (w.alloc (.cells #[] 30)) w.heap.size (.slice (some ⟨w.heap.size, 0, none⟩) 0 0) (dl (a - b) 0) :=
    ⟨rfl, Or.inr ⟨w.heap.size, 0, #[], rfl, Nat.le_refl _, by simpa using heap_alloc_new w (.cells #[] 30), Nat.le_refl _, by decide, rfl, rfl⟩⟩
  have hb1 : Below w.heap.size w (w.alloc (.cells #[] 30)) := (Below.refl _ _).alloc (Nat.le_refl _) _
  go_loopw [5, 6, 7] (fun bv cv iv wr => ∃ k br : Nat, k ≤ n ∧ iv = .int .i64 k ∧ cv = .int .u64 br ∧ br ≤ 1 ∧ Hid (br = Dg.bw DB a b k) ∧ NBuf wr w.heap.size bv (dl (a - b) k) ∧ Below w.heap.size w wr) (fun _ _ iv _ => n - (intOf iv).toNat)
  case atStart => exact ⟨0, 0, Nat.zero_le _, rfl, rfl, Nat.zero_le _, (Dg.bw_zero _ _ _).symm, hbuf1, hb1⟩
  case round =>
    obtain ⟨k, br, hk, rfl, rfl, hbr1, hbr, hbuf, hbel⟩ := hrel
    clear hbuf1 hb1
    have hsz := hbel.size
    by_cases hkn : k < n
    · obtain ⟨d1, hd1⟩ : ∃ d, d = Dg.dg DB a k := ⟨_, rfl⟩
      obtain ⟨d2, hd2⟩ : ∃ d, d = Dg.dg DB b k := ⟨_, rfl⟩
      have hl1 : d1 < 65536 := by rw [hd1]; exact Dg.dg_lt DBpos _ _
      have hl2 : d2 < 65536 := by rw [hd2]; exact Dg.dg_lt DBpos _ _
      have hcl : wr.cell? ⟨blk ao, off ao + k, none⟩ = some (.int .u64 (d1 : Nat)) := by rw [hd1]; exact (ha.rd.below hbel (Nat.le_refl _)).cell k hkn
      have hsa := ha.rd.sh
      have S1 := Dg.dg_sub DB a b k DBpos hba
      have S2 := Dg.sub_step DB a b k DBpos
      rw [← hd1, ← hd2, ← hbr.out] at S1 S2
      have hb' := hb.below hbel (Nat.le_refl _)
      have DIG : ∀ q, Calls Tryz.prog 52 #[.slice bo m d, .int .i64 k] (wr.drewN q) fun e w' => e = .returned (.int .u64 (d2 : Nat)) ∧ wr.drewN q = w' := fun q => by
        rw [hd2]; exact digit_any _ _ _ _ _ _ (hb'.drewN _) (by omega)
      obtain ⟨y, hy⟩ : ∃ y, y = (d1 + 65536 - d2 - br) % 65536 := ⟨_, rfl⟩
      have hyv : Value.int .u64 (y : Nat) = .int .u64 ((65536 + (d1 : Int) - (d2 : Int) - (br : Int)) % 65536) := by rw [hy]; congr 1; omega
      have hdl : dl (a - b) (k + 1) = dl (a - b) k ++ [y] := by
        have S3 : Dg.dg DB (a - b) k = (d1 + 65536 - d2 - br) % 65536 := S1
        rw [dl_succ, hy, S3]
      have hln : (dl (a - b) k).length + 1 ≤ 17592186044416 := by rw [dl_length]; omega
      have HS := Lib.hid S2; have HDG := Lib.hid DIG; have HYV := Lib.hid hyv; have HDL := Lib.hid hdl; have HLN := Lib.hid hln
      clear S1 S2 DIG hyv hdl hln hd1 hd2 hy
      go_wp2_with fail
      go_quiet ((go_at_call 52; exact quiet_same (HDG.out _)))
      go_wp2_with (at_builtin; refine wpList_append_num _ rfl (.tmp 27) (.tmp 30) _ rfl Tryz.underlying28 w.heap.size _ (dl (a - b) k) rfl ((hbuf.drewN _).below ((Below.refl _ _).alloc (Nat.le_refl _) _)) ⟨wr.heap.size, 0, none⟩ y 1 rfl (newn HYV.out) HLN.out (by simp; omega) w ((below_drawn hbel _).alloc (by simp; omega) _) ?_; intro v2 w2 hbuf2 hbel2)
      go_roundw
      case rel =>
        refine ⟨k + 1, if d1 < d2 + br then 1 else 0, by omega, by go_num, ?_, by split <;> omega, HS.out.symm, by rw [HDL.out]; exact hbuf2, hbel2⟩
        congr 1
        split <;> omega
      case measure => simp [intOf]; omega
    · obtain rfl : k = n := by omega
      obtain ⟨so, cap, rfl, hrd⟩ := hbuf.rd
      have hlt : a - b < DB ^ k := Nat.lt_of_le_of_lt (Nat.sub_le _ _) HAL.out
      have HLT := Lib.hid hlt; clear hlt
      go_wp2_with (go_at_call 30; refine (rtrim_num _ _ _ _ _ hrd HLT.out).mono ?_; rintro e w' ⟨k, rfl, hnum, rfl⟩)
      go_ret
      exact ⟨_, _, _, rfl, hnum, hbel⟩

/-- One digit of a half. -/
theorem half_dg (a i : Nat) : Dg.dg DB (a / 2) i = Dg.dg DB a i / 2 + 32768 * (Dg.dg DB a (i + 1) % 2) := by
  unfold Dg.dg
  rw [Nat.div_div_eq_div_mul, Nat.mul_comm 2, ← Nat.div_div_eq_div_mul, Nat.pow_succ, ← Nat.div_div_eq_div_mul, DB_eq]
  generalize a / 65536 ^ i = x
  omega

set_option maxRecDepth 100000 in
set_option maxHeartbeats 1600000 in
theorem rhalf_any (ao : Option Addr) (n c a : Nat) (w : World) (ha : RN w ao n c a) (hn : n ≤ 10000000) :
    Calls Tryz.prog 31 #[.slice ao n c] w (RetRN w (a / 2)) := by
  have hal : a < DB ^ n := ha.lt
  have HAL := Lib.hid hal; clear hal
  go_enter Tryz.func31, Tryz.ntmps31
  go_wp2_with (refine wpList_make_row _ rfl (.tmp 6) (.tmp 6) _ rfl 30 .u64 8 Tryz.underlying28 info64 .i64 .i64 _ _ n rfl rfl (by omega) (by omega) (by omega) (by omega) ?_; intro g w1 hg hown1 hb1)
  have hown2 : Own w1 .u64 30 g n (fun j => if j < 0 then Dg.dg DB (a / 2) j else 0) := hown1.congr fun j _ => by simp
  clear hown1
  go_loopw [4] (fun iv wr => ∃ k : Nat, k ≤ n ∧ iv = .int .i64 k ∧ Own wr .u64 30 g n (fun j => if j < k then Dg.dg DB (a / 2) j else 0) ∧ Below w.heap.size w wr) (fun iv _ => n - (intOf iv).toNat)
  case atStart => exact ⟨0, Nat.zero_le _, rfl, hown2, hb1⟩
  case round =>
    obtain ⟨k, hk, rfl, hown, hbel⟩ := hrel
    clear hown2 hb1
    by_cases hkn : k < n
    · obtain ⟨d1, hd1⟩ : ∃ d, d = Dg.dg DB a k := ⟨_, rfl⟩
      obtain ⟨d2, hd2⟩ : ∃ d, d = Dg.dg DB a (k + 1) := ⟨_, rfl⟩
      have hl1 : d1 < 65536 := by rw [hd1]; exact Dg.dg_lt DBpos _ _
      have hl2 : d2 < 65536 := by rw [hd2]; exact Dg.dg_lt DBpos _ _
      have ha' := ha.below hbel (Nat.le_refl _)
      have hcl : wr.cell? ⟨blk ao, off ao + k, none⟩ = some (.int .u64 (d1 : Nat)) := by rw [hd1]; exact ha'.rd.cell k hkn
      have hsa := ha.rd.sh
      have S1 := half_dg a k
      rw [← hd1, ← hd2] at S1
      have hfr := hown.frozen k
      have hco : wr.cell? ⟨g, k, none⟩ = some (.int .u64 0) := by have h := hown.cell k hkn; simpa using h
      have DIG : ∀ w', RN w' ao n c a → Calls Tryz.prog 52 #[.slice ao n c, .int .i64 ((k : Int) + 1)] w' fun e w2 => e = .returned (.int .u64 (d2 : Nat)) ∧ w2 = w' := fun w' h => by
        rw [hd2]; exact (digit_any _ _ _ _ (k + 1) _ h (by omega)).mono fun _ _ ⟨he, hw⟩ => ⟨he, hw.symm⟩
      have HS := Lib.hid S1; have HDG := Lib.hid DIG
      clear S1 DIG hd1 hd2
      go_wp2_with fail
      have W1 : IntKind.i64.wrap ((k : Int) + 1) = (k : Int) + 1 := IntWalk.i64_in _ (by omega)
      have W2 : IntKind.u64.wrap ((d1 : Int) / 2) = (d1 : Int) / 2 := by rw [IntKind.wrap_u64]; omega
      have W3 : IntKind.u64.wrap (32768 * ((d2 : Int) % 2)) = 32768 * ((d2 : Int) % 2) := by rw [IntKind.wrap_u64]; omega
      have W4 : IntKind.u64.wrap ((d1 : Int) / 2 + 32768 * ((d2 : Int) % 2)) = (d1 : Int) / 2 + 32768 * ((d2 : Int) % 2) := by rw [IntKind.wrap_u64]; omega
      have W5 : IntKind.u64.wrap ((d2 : Int) % 2) = (d2 : Int) % 2 := by rw [IntKind.wrap_u64]; omega
      refine wp_region_still_tail 15 (by kernel_rfl) (by kernel_rfl) ?_
      simp only [List.take_succ_cons, List.take_zero, List.drop_succ_cons, List.drop_zero]
      repeat still_step
      still_call (HDG.out _ ⟨ha'.len, ⟨ha'.rd.sh, ha'.rd.le, ha'.rd.cm, ha'.rd.cell⟩⟩)
      repeat still_step
      refine wpStill_nil ?_
      change wpList _ _ _ _ _ wr.drew
      clear W1 W2 W3 W4 W5
      go_wp2_with fail
      go_roundw
      case rel => exact ⟨k + 1, by omega, by go_num, (own_step_int hown (s := d1 / 2 + 32768 * (d2 % 2)) (by omega) HS.out.symm).drew, (hbel.setCell hg _).drew⟩
      case measure => simp [intOf]; omega
    · obtain rfl : k = n := by omega
      have hrd : Rd wr .u64 (some ⟨g, 0, none⟩) k k (Dg.dg DB (a / 2)) := (hown.congr fun j hj => by simp [hj]).rd
      have hlt : a / 2 < DB ^ k := Nat.lt_of_le_of_lt (Nat.div_le_self _ _) HAL.out
      have HLT := Lib.hid hlt; clear hlt
      go_wp2_with (go_at_call 30; refine (rtrim_num _ _ _ _ _ hrd HLT.out).mono ?_; rintro e w' ⟨k, rfl, hnum, rfl⟩)
      go_ret
      exact ⟨_, _, _, rfl, hnum, hbel⟩
end Go.Proofs.YtbmhiejggkdnkaaGreatDoor
