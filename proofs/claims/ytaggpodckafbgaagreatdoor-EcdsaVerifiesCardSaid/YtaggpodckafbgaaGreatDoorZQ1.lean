/- QBase QCmp QAdd QSub QMul, in one text. -/
import Derived.Test.YtaggpodckafbgaaGreatDoorZN2
import Derived.Test.YtaggpodckafbgaaGreatDoorZN1
import Derived.Test.YtaggpodckafbgaaGreatDoorZD
import Derived.StillTailTactics
import Derived.IntWalk
/- The reference's numbers (layer 5): digits to the base 65536, in cells of 32 bits. -/
namespace Go.Proofs.YtaggpodckafbgaaGreatDoor
open Go.RowKit
def DB : Nat := 65536
theorem DB_eq : DB = 65536 := rfl
theorem DB2 : 2 ≤ DB := by rw [DB_eq]; omega
theorem DBpos : 0 < DB := by rw [DB_eq]; omega
theorem qinfo32 : (Tryz.prog.info? 64).map (fun i => (i.zero, i.size, i.bytes)) = some (some (.int .u32 0), 1, 4) := by kernel_rfl
structure QN (w : World) (ao : Option Addr) (n cap v : Nat) : Prop where
  len : n = Dg.len DB v
  rd : Rd w .u32 ao n cap (Dg.dg DB v)
theorem QN.below {w w' : World} {B : Nat} {ao : Option Addr} {n cap v : Nat} (h : QN w ao n cap v) (hb : Below B w w') (hB : w.heap.size ≤ B) : QN w' ao n cap v := ⟨h.len, h.rd.below hb hB⟩
theorem QN.drewN {w : World} {ao : Option Addr} {n cap v : Nat} (h : QN w ao n cap v) (q : Nat) : QN (w.drewN q) ao n cap v := ⟨h.len, h.rd.drewN q⟩
theorem QN.lt {w : World} {ao : Option Addr} {n cap v : Nat} (h : QN w ao n cap v) : v < DB ^ n := by rw [h.len]; exact Dg.lt_pow_len DB2 v
theorem QN.le {w : World} {ao : Option Addr} {n cap v k : Nat} (h : QN w ao n cap v) (hv : v < DB ^ k) : n ≤ k := by rw [h.len]; exact (Dg.len_le_iff DB2 v k).2 hv
def RetQN (w : World) (v : Nat) (e : Ending) (w' : World) : Prop :=
  ∃ ro k cap, e = .returned (.slice ro k cap) ∧ QN w' ro k cap v ∧ Below w.heap.size w w'
theorem tl_dgB {B : Nat} (hB : 2 ≤ B) (v : Nat) : ∀ n, v < B ^ n → tl (Dg.dg B v) n = Dg.len B v
  | 0, h => by
    have : v = 0 := by simpa using h
    subst this
    rw [Dg.len_zero]; rfl
  | n + 1, h => by
    unfold tl
    by_cases h0 : Dg.dg B v n = 0
    · rw [if_pos h0]
      refine tl_dgB hB v n ?_
      have e := Dg.mod_succ B v n
      rw [Nat.mod_eq_of_lt h, h0] at e
      rw [e]
      simpa using Nat.mod_lt v (Nat.pow_pos (n := n) (show 0 < B by omega))
    · rw [if_neg h0]
      exact (Dg.len_unique hB h (Or.inr (by simp; omega))).symm
theorem dg_add_at {B V k x : Nat} (hB : 0 < B) (h : Dg.dg B V k + x < B) (j : Nat) : Dg.dg B (V + x * B ^ k) j = if j = k then Dg.dg B V k + x else Dg.dg B V j := by
  have hp : 0 < B ^ k := Nat.pow_pos hB
  have e1 : (V + x * B ^ k) / B ^ k = V / B ^ k + x := by rw [Nat.mul_comm x, Nat.add_mul_div_left _ _ hp]
  have e2 : V / B ^ k = B * (V / B ^ (k + 1)) + Dg.dg B V k := by
    unfold Dg.dg
    rw [Nat.pow_succ, ← Nat.div_div_eq_div_mul]
    exact (Nat.div_add_mod _ _).symm
  by_cases hj : j = k
  · subst hj
    rw [if_pos rfl]
    show (V + x * B ^ j) / B ^ j % B = _
    rw [e1, e2, Nat.add_assoc, Nat.mul_add_mod, Nat.mod_eq_of_lt h]
  · rw [if_neg hj]
    rcases Nat.lt_or_gt_of_ne hj with h1 | h1
    · obtain ⟨d, rfl⟩ : ∃ d, k = j + 1 + d := ⟨k - (j + 1), by omega⟩
      have e4 : x * B ^ (j + 1 + d) = B ^ j * (B * (x * B ^ d)) := by
        rw [Nat.pow_add, Nat.pow_succ]
        simp only [Nat.mul_comm, Nat.mul_left_comm, Nat.mul_assoc]
      unfold Dg.dg
      rw [e4, Nat.add_mul_div_left _ _ (Nat.pow_pos hB), Nat.add_mul_mod_self_left]
    · obtain ⟨d, rfl⟩ : ∃ d, j = k + 1 + d := ⟨j - (k + 1), by omega⟩
      rw [← Dg.dg_div, ← Dg.dg_div]
      congr 1
      have e5 : (V + x * B ^ k) / B ^ k / B = V / B ^ (k + 1) := by
        rw [e1, e2, Nat.add_assoc, Nat.mul_add_div hB, Nat.div_eq_of_lt h, Nat.add_zero]
      rw [Nat.div_div_eq_div_mul, ← Nat.pow_succ] at e5
      rw [e5]
set_option maxRecDepth 100000 in
theorem qtrim_any (ao : Option Addr) (n cap : Nat) (f : Nat → Nat) (w : World) (hr : Rd w .u32 ao n cap f) :
    Calls Tryz.prog 74 #[.slice ao n cap] w fun e w' => e = .returned (.slice ao (tl f n) cap) ∧ w = w' := by
  have hle := hr.le
  have hcm := hr.cm
  go_enter Tryz.func74, Tryz.ntmps74
  go_wp2
  go_loop [3] (fun v => ∃ m : Nat, m ≤ n ∧ v = .int .i64 m ∧ tl f m = tl f n) (fun v => (intOf v).toNat)
  case atStart => exact ⟨n, Nat.le_refl _, rfl, rfl⟩
  case round =>
    obtain ⟨m, hm, rfl, ht⟩ := hrel
    have HT := Lib.hid ht; clear ht
    have hs := hr.sh
    by_cases h0 : 0 < m
    · obtain ⟨k, rfl⟩ : ∃ k, m = k + 1 := ⟨m - 1, by omega⟩
      have hc : w.cell? ⟨blk ao, off ao + k, none⟩ = some (.int .u32 (f k : Nat)) := hr.cell _ (by omega)
      go_wp2
      · have hz : ((f k : Int) == 0) = true := by assumption
        have hz' : f k = 0 := by simpa using hz
        go_round
        case rel => exact ⟨k, by omega, by go_num, by rw [← HT.out, tl, if_pos hz']⟩
        case measure => simp [intOf]
      · have hz : ((f k : Int) == 0) = false := by assumption
        have hz' : ¬ f k = 0 := by simpa using hz
        go_ret
        exact ⟨ret_slice (by rw [← HT.out, tl, if_neg hz']) rfl, rfl⟩
    · obtain rfl : m = 0 := by omega
      go_wp2
      go_ret
      exact ⟨ret_slice HT.out rfl, rfl⟩
theorem qtrim_num (ao : Option Addr) (n cap v : Nat) (w : World) (hr : Rd w .u32 ao n cap (Dg.dg DB v)) (hv : v < DB ^ n) :
    Calls Tryz.prog 74 #[.slice ao n cap] w fun e w' => ∃ k, e = .returned (.slice ao k cap) ∧ QN w ao k cap v ∧ w = w' :=
  (qtrim_any ao n cap _ w hr).mono fun _ _ ⟨he, hw⟩ => ⟨_, he, ⟨tl_dgB DB2 v n hv, hr.take (tl_le _ _)⟩, hw⟩
end Go.Proofs.YtaggpodckafbgaaGreatDoor
/- The reference's Cmp (layer 5): the walk. -/
namespace Go.Proofs.YtaggpodckafbgaaGreatDoor
open Go.RowKit
set_option maxRecDepth 100000 in
theorem qcmp_rd (ao bo : Option Addr) (n c m d a b : Nat) (w : World) (hra : Rd w .u32 ao n c (Dg.dg DB a)) (hrb : Rd w .u32 bo m d (Dg.dg DB b)) (hal : a < DB ^ n) (hbl : b < DB ^ m) :
    Calls Tryz.prog 35 #[.slice ao n c, .slice bo m d] w fun e w' => e = .returned (.int .i64 (cmpN a b)) ∧ ∃ q, w' = w.drewN q := by
  have H1 := Lib.hid (qtrim_num ao n c a w hra hal)
  have H2 := Lib.hid (qtrim_num bo m d b w hrb hbl)
  clear hra hrb hal hbl
  go_enter Tryz.func35, Tryz.ntmps35
  go_wp2_with fail
  refine H1.out.mono ?_
  rintro e w' ⟨n, rfl, ha, rfl⟩
  go_wp2_with fail
  refine H2.out.mono ?_
  rintro e w' ⟨m, rfl, hb, rfl⟩
  clear H1 H2
  have hn := Nat.le_trans ha.rd.le ha.rd.cm
  have hm := Nat.le_trans hb.rd.le hb.rd.cm
  by_cases hnm : n < m
  · have hr : cmpN a b = -1 := cmpN_lt (Dg.lt_of_len DB2 (by rw [← ha.len, ← hb.len]; exact hnm))
    have HR := Lib.hid hr; clear hr
    have e1 : ((n : Int) != (m : Int)) = true := by simp; omega
    go_wp2
    go_ret
    exact ⟨ret_int (by rw [HR.out]), 0, rfl⟩
  · by_cases hmn : m < n
    · have hr : cmpN a b = 1 := cmpN_gt (Dg.lt_of_len DB2 (by rw [← ha.len, ← hb.len]; exact hmn))
      have HR := Lib.hid hr; clear hr
      have e1 : ((n : Int) != (m : Int)) = true := by simp; omega
      go_wp2
      go_ret
      exact ⟨ret_int (by rw [HR.out]), 0, rfl⟩
    · obtain rfl : n = m := by omega
      have hla := ha.lt
      have hlb := hb.lt
      have HLA := Lib.hid hla; clear hla
      have HLB := Lib.hid hlb; clear hlb
      clear hnm hmn
      go_wp2
      go_loopw [5] (fun i wr => ∃ (x : Int) (q : Nat), -1 ≤ x ∧ x < n ∧ i = .int .i64 x ∧ wr = w.drewN q ∧ ∀ j : Nat, x < j → j < n → Dg.dg DB a j = Dg.dg DB b j) (fun i _ => (intOf i + 1).toNat)
      case atStart => exact ⟨_, 0, by omega, by omega, rfl, rfl, fun j h1 h2 => absurd h1 (by omega)⟩
      case round =>
        obtain ⟨x, q, hx1, hx2, rfl, rfl, he⟩ := hrel
        have HE := Lib.hid he; clear he
        by_cases h0 : x < 0
        · go_wp2
          go_ret
          have hab : a = b := Dg.ext n HLA.out HLB.out fun j hj => HE.out j (by omega) hj
          exact ⟨ret_int (by rw [hab, cmpN_eq]), q, rfl⟩
        · obtain ⟨i, rfl⟩ := Int.eq_ofNat_of_zero_le (by omega : 0 ≤ x)
          have hca := ha.rd.cell i (by omega)
          have hcb := hb.rd.cell i (by omega)
          have hsa := ha.rd.sh
          have hsb := hb.rd.sh
          have hi : (i : Int) < n := hx2
          go_wp2
          go_quiet (fail)
          go_wp2
          · have hlt : Dg.dg DB a i < Dg.dg DB b i := by assumption
            go_ret
            have h1 : a < b := Dg.lt_of_dg (n := n) (i := i) DBpos HLA.out HLB.out (by omega) (fun j h1 h2 => HE.out j (by omega) h2) hlt
            exact ⟨ret_int (by rw [cmpN_lt h1]), drawn2 _ _ _⟩
          · have hge : ¬ Dg.dg DB a i < Dg.dg DB b i := by assumption
            go_quiet (fail)
            go_wp2
            · have hlt : Dg.dg DB b i < Dg.dg DB a i := by assumption
              go_ret
              have h1 : b < a := Dg.lt_of_dg (n := n) (i := i) DBpos HLB.out HLA.out (by omega) (fun j h1 h2 => (HE.out j (by omega) h2).symm) hlt
              exact ⟨ret_int (by rw [cmpN_gt h1]), drawn3 _ _ _ _⟩
            · have hgt : ¬ Dg.dg DB b i < Dg.dg DB a i := by assumption
              go_roundw
              case rel =>
                refine ⟨_, _, by omega, by omega, rfl, rfl, fun j h1 h2 => ?_⟩
                by_cases e : j = i
                · rw [e]; omega
                · exact HE.out j (by omega) h2
              case measure => simp [intOf]
theorem qcmp_any (ao bo : Option Addr) (n c m d a b : Nat) (w : World) (ha : QN w ao n c a) (hb : QN w bo m d b) :
    Calls Tryz.prog 35 #[.slice ao n c, .slice bo m d] w fun e w' => e = .returned (.int .i64 (cmpN a b)) ∧ ∃ q, w' = w.drewN q := qcmp_rd ao bo n c m d a b w ha.rd hb.rd ha.lt hb.lt
end Go.Proofs.YtaggpodckafbgaaGreatDoor
/- The reference's Add, Sub (layer 5): the walks. -/
namespace Go.Proofs.YtaggpodckafbgaaGreatDoor
open Go.RowKit
def QBuf (w : World) (B : Nat) (v : Value) (l : List Nat) : Prop :=
  w.ownsRow B 64 1 v l.length (l.map fun c => Value.int .u32 (c : Nat))
theorem QBuf.own {w : World} {B : Nat} {v : Value} {l : List Nat} (h : QBuf w B v l) : w.ownsRow B 64 1 v l.length (l.map fun c => Value.int .u32 (c : Nat)) := h
theorem qnum_cells (l : List Nat) : ∀ u ∈ (l.map fun c => Value.int .u32 (c : Nat)), u.oneCell' = true := by
  intro u hu
  obtain ⟨c, _, rfl⟩ := List.mem_map.1 hu
  rfl
theorem QBuf.below {w w' : World} {B : Nat} {v : Value} {l : List Nat} (h : QBuf w B v l) (hb : Below w.heap.size w w') : QBuf w' B v l := by
  obtain ⟨h1, h2⟩ := h
  refine ⟨h1, ?_⟩
  rcases h2 with h2 | ⟨g, cap, cur, hv, hg, hh, r⟩
  · exact Or.inl h2
  · exact Or.inr ⟨g, cap, cur, hv, hg, by rw [hb.block g (by have := (Array.getElem?_eq_some_iff.1 hh).1; omega)]; exact hh, r⟩
theorem wpList_append_q (w : World) {ops : Array Oper} {rest : List Oper} {o : Oper} {a : Act} {Q : Exit → Act → World → Prop} (hgd : o.guard = none) (s x : Operand) (t : TypeId)
    (ho : o.op = .call { callee := .builtin .append, args := #[s, x], argTypes := #[t, t] }) (ht : Tryz.prog.underlying t = some (.slice 64)) (B : Nat) (v : Value) (l : List Nat) (hs : a.eval s = v) (hb : QBuf w B v l)
    (ad : Addr) (y : Nat) (c : Nat) (hx : a.eval x = .slice (some ad) 1 c) (hnews : ∀ (j : Nat) u, ([y].map fun c => Value.int .u32 (c : Nat))[j]? = some u → w.cell? (ad.add j) = some u)
    (hlen : l.length + 1 ≤ 17592186044416) (hbase : B ≤ w.heap.size) (w0 : World) (hw0 : Below B w0 w)
    (h : ∀ v' w', QBuf w' B v' (l ++ [y]) → Below B w0 w' → wpList Tryz.prog ops Q rest (a.put o.dst v') w') : wpList Tryz.prog ops Q (o :: rest) a w := by
  obtain ⟨i, hi, hz0, hz1, hz2⟩ := info_parts qinfo32
  refine wpList_append_own w hgd s x t ho B 64 i (.int .u32 0) 1 4 ht hi hz0 hz1 hz2 rfl (by decide) v l.length _ hs hb ad 1 c ([y].map fun c => Value.int .u32 (c : Nat)) hx rfl hnews (qnum_cells [y]) (by unfold maxLen; omega) (by omega) hbase ?_
  intro v' w' hown hgr _
  refine h v' w' ?_ (hw0.grown hgr hbase ?_)
  · unfold QBuf
    rw [List.length_append, List.map_append]; exact hown
  · intro k hk
    exact (hb.lt k hk).1
theorem newq {w : World} {y : Nat} {v : Value} (h : Value.int .u32 (y : Nat) = v) :
    ∀ (j : Nat) (u : Value), ([y].map fun c => Value.int .u32 (c : Nat))[j]? = some u → (w.alloc (.cells #[v] 64)).cell? ((⟨w.heap.size, 0, none⟩ : Addr).add j) = some u := by
  rw [← h]; exact new_cells w #[.int .u32 (y : Nat)] 64
def dl (v k : Nat) : List Nat := (List.range k).map (Dg.dg DB v)
theorem dl_length (v k : Nat) : (dl v k).length = k := by simp [dl]
theorem dl_succ (v k : Nat) : dl v (k + 1) = dl v k ++ [Dg.dg DB v k] := by simp [dl, List.range_succ]
theorem QBuf.rd {w : World} {B : Nat} {s : Value} {v k : Nat} (h : QBuf w B s (dl v k)) : ∃ bo cap, s = .slice bo k cap ∧ Rd w .u32 bo k cap (Dg.dg DB v) := by
  have hown := h.own
  obtain ⟨h1, ⟨h2, h3⟩ | ⟨g, cap, cur, hv, hg, hh, hnc, hcm, _⟩⟩ := h
  · rw [dl_length] at h3
    subst h3
    exact ⟨none, 0, h2, Rd.nil _ _ _⟩
  · rw [dl_length] at hv hnc
    refine ⟨some ⟨g, 0, none⟩, cap, hv, Sh.some _ _ _, hnc, by simpa [maxLen] using hcm, fun j hj => ?_⟩
    rw [hv, dl_length] at hown
    rw [blk_some, off_some, Nat.zero_add, hown.cellAt j (by omega)]
    simp [dl, hj]
theorem bits32_mask (x : Nat) (h : x < 4294967296) : bits BinOp.and IntKind.u32 (x : Int) 65535 = ((x % 65536 : Nat) : Int) := by
  have := u32_and_nat x 65535 h (by omega)
  rw [show (65535 : Nat) = 2 ^ 16 - 1 from rfl, Nat.and_two_pow_sub_one_eq_mod] at this
  exact this
set_option maxRecDepth 100000 in
set_option maxHeartbeats 1600000 in
theorem qadd_any (ao bo : Option Addr) (n c m d a b : Nat) (w : World) (ha : QN w ao n c a) (hb : QN w bo m d b) (hn : n ≤ 10000000) (hm : m ≤ 10000000) :
    Calls Tryz.prog 121 #[.slice ao n c, .slice bo m d] w (RetQN w (a + b)) := by
  obtain ⟨K, hK⟩ : ∃ K, K = max n m := ⟨_, rfl⟩
  have hal : a < DB ^ K := Nat.lt_of_lt_of_le ha.lt (Nat.pow_le_pow_right DBpos (by omega))
  have hbl : b < DB ^ K := Nat.lt_of_lt_of_le hb.lt (Nat.pow_le_pow_right DBpos (by omega))
  have hKl : K ≤ 10000000 := by omega
  have HAL := Lib.hid hal; have HBL := Lib.hid hbl
  clear hal hbl
  have hKn : n ≤ K ∧ m ≤ K := by omega
  have hKc : ∀ k : Nat, k < K → k < n ∨ k < m := fun k h => by omega
  have HKC := Lib.hid hKc
  have hK1 : K ≤ n ∨ K ≤ m := by omega
  clear hK hKc
  go_enter Tryz.func121, Tryz.ntmps121
  go_wp2_with fail
  have hbuf1 : QBuf (w.alloc (.cells #[] 64)) w.heap.size (.slice (some ⟨w.heap.size, 0, none⟩) 0 0) (dl (a + b) 0) :=
    ⟨rfl, Or.inr ⟨w.heap.size, 0, #[], rfl, Nat.le_refl _, by simpa using heap_alloc_new w (.cells #[] 64), Nat.le_refl _, by decide, rfl, rfl⟩⟩
  have hb1 : Below w.heap.size w (w.alloc (.cells #[] 64)) := (Below.refl _ _).alloc (Nat.le_refl _) _
  go_loopw [5, 6, 7] (fun bv cv iv wr => ∃ k cr : Nat, k ≤ K ∧ iv = .int .i64 k ∧ cv = .int .u32 cr ∧ cr ≤ 1 ∧ Hid (cr = Dg.cy DB a b k) ∧ QBuf wr w.heap.size bv (dl (a + b) k) ∧ Below w.heap.size w wr) (fun _ _ iv _ => K - (intOf iv).toNat)
  case atStart => exact ⟨0, 0, Nat.zero_le _, rfl, rfl, Nat.zero_le _, (Dg.cy_zero _ _ _).symm, hbuf1, hb1⟩
  case round =>
    obtain ⟨k, cr, hk, rfl, rfl, hcr1, hcr, hbuf, hbel⟩ := hrel
    clear hbuf1 hb1
    have hsz := hbel.size
    by_cases hkK : k < K
    · obtain ⟨d1, hd1⟩ : ∃ d, d = Dg.dg DB a k := ⟨_, rfl⟩
      obtain ⟨d2, hd2⟩ : ∃ d, d = Dg.dg DB b k := ⟨_, rfl⟩
      have hl1 : d1 < 65536 := by rw [hd1]; exact Dg.dg_lt DBpos _ _
      have hl2 : d2 < 65536 := by rw [hd2]; exact Dg.dg_lt DBpos _ _
      have S := Dg.cy_step DB a b k DBpos
      rw [← hd1, ← hd2, ← hcr.out, DB_eq] at S
      obtain ⟨y, hy⟩ : ∃ y, y = (d1 + d2 + cr) % 65536 := ⟨_, rfl⟩
      have hdl : dl (a + b) (k + 1) = dl (a + b) k ++ [y] := by
        have S1 : Dg.dg DB (a + b) k = (d1 + d2 + cr) % 65536 := S.1
        rw [dl_succ, hy, S1]
      have hln : (dl (a + b) k).length + 1 ≤ 17592186044416 := by rw [dl_length]; omega
      have HS := Lib.hid S; have HDL := Lib.hid hdl; have HLN := Lib.hid hln; have HY := Lib.hid hy
      clear S hdl hln hy
      have hsa := ha.rd.sh
      have hsb := hb.rd.sh
      have hz1 : n ≤ k → d1 = 0 := fun h => hd1.trans (Dg.dg_of_lt_le DBpos ha.lt h)
      have hz2 : m ≤ k → d2 = 0 := fun h => hd2.trans (Dg.dg_of_lt_le DBpos hb.lt h)
      have hc1 : k < n → wr.cell? ⟨blk ao, off ao + k, none⟩ = some (.int .u32 (d1 : Nat)) := fun h => by rw [hd1]; exact (ha.rd.below hbel (Nat.le_refl _)).cell k h
      have hc2 : k < m → wr.cell? ⟨blk bo, off bo + k, none⟩ = some (.int .u32 (d2 : Nat)) := fun h => by rw [hd2]; exact (hb.rd.below hbel (Nat.le_refl _)).cell k h
      have HC1 := Lib.hid hc1; have HC2 := Lib.hid hc2; have HZ1 := Lib.hid hz1; have HZ2 := Lib.hid hz2
      clear hd1 hd2 hc1 hc2 hz1 hz2
      have hm1 : bits BinOp.and IntKind.u32 ((cr : Int) + (d1 : Int) + (d2 : Int)) 65535 = (y : Int) := by
        have h := bits32_mask (cr + d1 + d2) (by omega)
        rw [HY.out]
        have e : ((cr + d1 + d2 : Nat) : Int) = (cr : Int) + (d1 : Int) + (d2 : Int) := by omega
        rw [e] at h; rw [h]; congr 2; omega
      have hm2 : n ≤ k → bits BinOp.and IntKind.u32 ((cr : Int) + (d2 : Int)) 65535 = (y : Int) := fun h => by rw [← hm1, HZ1.out h]; simp
      have hm3 : m ≤ k → bits BinOp.and IntKind.u32 ((cr : Int) + (d1 : Int)) 65535 = (y : Int) := fun h => by rw [← hm1, HZ2.out h]; simp
      have HM1 := Lib.hid hm1; have HM2 := Lib.hid hm2; have HM3 := Lib.hid hm3
      clear hm1 hm2 hm3
      by_cases h1 : k < n
      · have e1 := HC1.out h1
        by_cases h2 : k < m
        · have e2 := HC2.out h2
          have e3 := HM1.out
          go_wp2_with (at_builtin; refine wpList_append_q _ rfl (.tmp 41) (.tmp 44) _ rfl Tryz.underlying29 w.heap.size _ (dl (a + b) k) rfl (hbuf.below ((Below.refl _ _).alloc (Nat.le_refl _) _)) ⟨wr.heap.size, 0, none⟩ y 1 rfl (newq (by first | rfl | rw [HM1.out])) HLN.out (by simp; omega) w (hbel.alloc (by omega) _) ?_; intro v2 w2 hbuf2 hbel2)
          go_roundw
          case rel => exact ⟨k + 1, (d1 + d2 + cr) / 65536, by omega, by go_num, by congr 1; omega, by omega, HS.out.2.symm, by rw [HDL.out]; exact hbuf2, hbel2⟩
          case measure => simp [intOf]; omega
        · have e3 := HM3.out (by omega)
          have e4 := HZ2.out (by omega)
          have HE4 := Lib.hid e4; clear e4
          go_wp2_with (at_builtin; refine wpList_append_q _ rfl (.tmp 41) (.tmp 44) _ rfl Tryz.underlying29 w.heap.size _ (dl (a + b) k) rfl (hbuf.below ((Below.refl _ _).alloc (Nat.le_refl _) _)) ⟨wr.heap.size, 0, none⟩ y 1 rfl (newq (by first | rfl | rw [e3])) HLN.out (by simp; omega) w (hbel.alloc (by omega) _) ?_; intro v2 w2 hbuf2 hbel2)
          have e4 := HE4.out
          go_roundw
          case rel => exact ⟨k + 1, (d1 + d2 + cr) / 65536, by omega, by go_num, by congr 1; omega, by omega, HS.out.2.symm, by rw [HDL.out]; exact hbuf2, hbel2⟩
          case measure => simp [intOf]; omega
      · have h2 : k < m := by have := HKC.out k hkK; omega
        have e2 := HC2.out h2
        have e3 := HM2.out (by omega)
        have e4 := HZ1.out (by omega)
        have HE4 := Lib.hid e4; clear e4
        go_wp2_with (at_builtin; refine wpList_append_q _ rfl (.tmp 41) (.tmp 44) _ rfl Tryz.underlying29 w.heap.size _ (dl (a + b) k) rfl (hbuf.below ((Below.refl _ _).alloc (Nat.le_refl _) _)) ⟨wr.heap.size, 0, none⟩ y 1 rfl (newq (by first | rfl | rw [e3])) HLN.out (by simp; omega) w (hbel.alloc (by omega) _) ?_; intro v2 w2 hbuf2 hbel2)
        have e4 := HE4.out
        go_roundw
        case rel => exact ⟨k + 1, (d1 + d2 + cr) / 65536, by omega, by go_num, by congr 1; omega, by omega, HS.out.2.symm, by rw [HDL.out]; exact hbuf2, hbel2⟩
        case measure => simp [intOf]; omega
    · obtain rfl : k = K := by omega
      have hkn : ¬ k < n := by omega
      have hkm : ¬ k < m := by omega
      have hcd : Dg.dg DB (a + b) k = cr := by
        have S := Dg.cy_step DB a b k DBpos
        rw [← hcr.out, Dg.dg_of_lt HAL.out, Dg.dg_of_lt HBL.out] at S
        rw [S.1, DB_eq]; omega
      have hdl : dl (a + b) (k + 1) = dl (a + b) k ++ [cr] := by rw [dl_succ, hcd]
      have hln : (dl (a + b) k).length + 1 ≤ 17592186044416 := by rw [dl_length]; omega
      have hlt : a + b < DB ^ (k + 1) := by
        have h3 : DB ^ k * 2 ≤ DB ^ (k + 1) := by rw [Nat.pow_succ]; exact Nat.mul_le_mul_left _ DB2
        have := HAL.out; have := HBL.out; omega
      have HLT := Lib.hid hlt; have HDL := Lib.hid hdl; have HLN := Lib.hid hln
      clear hlt hcd hdl hln hK1 hKn hkK
      go_wp2_with (at_builtin; refine wpList_append_q _ rfl (.tmp 48) (.tmp 50) _ rfl Tryz.underlying29 w.heap.size _ (dl (a + b) k) rfl (hbuf.below ((Below.refl _ _).alloc (Nat.le_refl _) _)) ⟨wr.heap.size, 0, none⟩ cr 1 rfl (newq rfl) HLN.out (by simp; omega) w (hbel.alloc (by omega) _) ?_; intro v2 w2 hbuf2 hbel2)
      rw [← HDL.out] at hbuf2
      obtain ⟨so, cap, rfl, hrd⟩ := hbuf2.rd
      go_wp2_with (go_at_call 74; refine (qtrim_num _ _ _ _ _ hrd HLT.out).mono ?_; rintro e w' ⟨k, rfl, hnum, rfl⟩)
      go_ret
      exact ⟨_, _, _, rfl, hnum, hbel2⟩
end Go.Proofs.YtaggpodckafbgaaGreatDoor
/- The reference's Sub (layer 5): the walk. -/
namespace Go.Proofs.YtaggpodckafbgaaGreatDoor
open Go.RowKit
set_option maxRecDepth 100000 in
set_option maxHeartbeats 1600000 in
theorem qsub_any (ao bo : Option Addr) (n c m d a b : Nat) (w : World) (ha : QN w ao n c a) (hb : QN w bo m d b) (hba : b ≤ a) (hn : n ≤ 10000000) (_hm : m ≤ 10000000) :
    Calls Tryz.prog 91 #[.slice ao n c, .slice bo m d] w (RetQN w (a - b)) := by
  have hal : a < DB ^ n := ha.lt
  have HAL := Lib.hid hal; clear hal
  go_enter Tryz.func91, Tryz.ntmps91
  go_wp2_with fail
  have hbuf1 : QBuf (w.alloc (.cells #[] 64)) w.heap.size (.slice (some ⟨w.heap.size, 0, none⟩) 0 0) (dl (a - b) 0) :=
    ⟨rfl, Or.inr ⟨w.heap.size, 0, #[], rfl, Nat.le_refl _, by simpa using heap_alloc_new w (.cells #[] 64), Nat.le_refl _, by decide, rfl, rfl⟩⟩
  have hb1 : Below w.heap.size w (w.alloc (.cells #[] 64)) := (Below.refl _ _).alloc (Nat.le_refl _) _
  go_loopw [5, 6, 7] (fun bv cv iv wr => ∃ k br : Nat, k ≤ n ∧ iv = .int .i64 k ∧ cv = .int .u32 br ∧ br ≤ 1 ∧ Hid (br = Dg.bw DB a b k) ∧ QBuf wr w.heap.size bv (dl (a - b) k) ∧ Below w.heap.size w wr) (fun _ _ iv _ => n - (intOf iv).toNat)
  case atStart => exact ⟨0, 0, Nat.zero_le _, rfl, rfl, Nat.zero_le _, (Dg.bw_zero _ _ _).symm, hbuf1, hb1⟩
  case round =>
    obtain ⟨k, br, hk, rfl, rfl, hbr1, hbr, hbuf, hbel⟩ := hrel
    clear hbuf1 hb1
    have hsz := hbel.size
    by_cases hkn : k < n
    · obtain ⟨d1, hd1⟩ : ∃ d, d = Dg.dg DB a k := ⟨_, rfl⟩
      obtain ⟨d2, hd2⟩ : ∃ d, d = Dg.dg DB b k := ⟨_, rfl⟩
      have hl1 : d1 < 65536 := by rw [hd1]; exact Dg.dg_lt DBpos _ _
      have hl2 : d2 < 65536 := by rw [hd2]; exact Dg.dg_lt DBpos _ _
      have hcl : wr.cell? ⟨blk ao, off ao + k, none⟩ = some (.int .u32 (d1 : Nat)) := by rw [hd1]; exact (ha.rd.below hbel (Nat.le_refl _)).cell k hkn
      have hsa := ha.rd.sh
      have hsb := hb.rd.sh
      have S1 := Dg.dg_sub DB a b k DBpos hba
      have S2 := Dg.sub_step DB a b k DBpos
      rw [← hd1, ← hd2, ← hbr.out] at S1 S2
      have hz2 : m ≤ k → d2 = 0 := fun h => hd2.trans (Dg.dg_of_lt_le DBpos hb.lt h)
      have hc2 : k < m → wr.cell? ⟨blk bo, off bo + k, none⟩ = some (.int .u32 (d2 : Nat)) := fun h => by rw [hd2]; exact (hb.rd.below hbel (Nat.le_refl _)).cell k h
      obtain ⟨y, hy⟩ : ∃ y, y = (d1 + 65536 - d2 - br) % 65536 := ⟨_, rfl⟩
      have hdl : dl (a - b) (k + 1) = dl (a - b) k ++ [y] := by
        have S3 : Dg.dg DB (a - b) k = (d1 + 65536 - d2 - br) % 65536 := S1
        rw [dl_succ, hy, S3]
      have hln : (dl (a - b) k).length + 1 ≤ 17592186044416 := by rw [dl_length]; omega
      have hm1 : bits BinOp.and IntKind.u32 (65536 + (d1 : Int) - (br : Int) - (d2 : Int)) 65535 = (y : Int) := by
        have h := bits32_mask (65536 + d1 - br - d2) (by omega)
        have e : ((65536 + d1 - br - d2 : Nat) : Int) = 65536 + (d1 : Int) - (br : Int) - (d2 : Int) := by omega
        rw [e] at h; rw [h, hy]; congr 2; omega
      have hm2 : m ≤ k → bits BinOp.and IntKind.u32 (65536 + (d1 : Int) - (br : Int)) 65535 = (y : Int) := fun h => by rw [← hm1, hz2 h]; simp
      have HS := Lib.hid S2; have HDL := Lib.hid hdl; have HLN := Lib.hid hln; have HZ2 := Lib.hid hz2; have HC2 := Lib.hid hc2; have HM1 := Lib.hid hm1; have HM2 := Lib.hid hm2
      clear S1 S2 hdl hln hd1 hd2 hy hz2 hc2 hm1 hm2
      by_cases h2 : k < m
      · have e2 := HC2.out h2
        have e3 := HM1.out
        go_wp2_with (at_builtin; refine wpList_append_q _ rfl (.tmp 33) (.tmp 36) _ rfl Tryz.underlying29 w.heap.size _ (dl (a - b) k) rfl (hbuf.below ((Below.refl _ _).alloc (Nat.le_refl _) _)) ⟨wr.heap.size, 0, none⟩ y 1 rfl (newq (by first | rfl | rw [HM1.out])) HLN.out (by simp; omega) w (hbel.alloc (by omega) _) ?_; intro v2 w2 hbuf2 hbel2)
        go_roundw
        case rel =>
          refine ⟨k + 1, if d1 < d2 + br then 1 else 0, by omega, by go_num, ?_, by split <;> omega, HS.out.symm, by rw [HDL.out]; exact hbuf2, hbel2⟩
          congr 1
          split <;> omega
        case measure => simp [intOf]; omega
      · have e3 := HM2.out (by omega)
        have HE4 := Lib.hid (HZ2.out (by omega))
        go_wp2_with (at_builtin; refine wpList_append_q _ rfl (.tmp 33) (.tmp 36) _ rfl Tryz.underlying29 w.heap.size _ (dl (a - b) k) rfl (hbuf.below ((Below.refl _ _).alloc (Nat.le_refl _) _)) ⟨wr.heap.size, 0, none⟩ y 1 rfl (newq (by first | rfl | rw [e3])) HLN.out (by simp; omega) w (hbel.alloc (by omega) _) ?_; intro v2 w2 hbuf2 hbel2)
        have e4 := HE4.out
        go_roundw
        case rel =>
          refine ⟨k + 1, if d1 < d2 + br then 1 else 0, by omega, by go_num, ?_, by split <;> omega, HS.out.symm, by rw [HDL.out]; exact hbuf2, hbel2⟩
          congr 1
          split <;> omega
        case measure => simp [intOf]; omega
    · obtain rfl : k = n := by omega
      obtain ⟨so, cap, rfl, hrd⟩ := hbuf.rd
      have hlt : a - b < DB ^ k := Nat.lt_of_le_of_lt (Nat.sub_le _ _) HAL.out
      have HLT := Lib.hid hlt; clear hlt
      go_wp2_with (go_at_call 74; refine (qtrim_num _ _ _ _ _ hrd HLT.out).mono ?_; rintro e w' ⟨k, rfl, hnum, rfl⟩)
      go_ret
      exact ⟨_, _, _, rfl, hnum, hbel⟩
end Go.Proofs.YtaggpodckafbgaaGreatDoor
/- The reference's Mul (layer 5): the walk. -/
namespace Go.Proofs.YtaggpodckafbgaaGreatDoor
open Go.RowKit
theorem mul_stepB {B X S S' i cr x y nw : Nat} (hB : 0 < B) (hS' : S' = S + x * y * B ^ i) (hcr : S / B ^ i = X / B ^ i + cr) (hnw : nw = cr + (Dg.dg B X i + x * y)) :
    nw % B = Dg.dg B S' i ∧ S' / B ^ (i + 1) = X / B ^ (i + 1) + nw / B ∧ ∀ j, j < i → Dg.dg B S' j = Dg.dg B S j := by
  have hp : 0 < B ^ i := Nat.pow_pos hB
  have e1 : S' / B ^ i = X / B ^ i + cr + x * y := by
    rw [hS', Nat.mul_comm (x * y), Nat.add_mul_div_left _ _ hp, hcr]
  have e2 : X / B ^ i = B * (X / B ^ (i + 1)) + Dg.dg B X i := by
    unfold Dg.dg
    rw [Nat.pow_succ, ← Nat.div_div_eq_div_mul]
    exact (Nat.div_add_mod _ _).symm
  have e3 : S' / B ^ i = nw + B * (X / B ^ (i + 1)) := by rw [e1, hnw]; omega
  refine ⟨?_, ?_, fun j hj => ?_⟩
  · show _ = S' / B ^ i % B
    rw [e3, Nat.add_mul_mod_self_left]
  · have e5 : S' / B ^ (i + 1) = S' / B ^ i / B := by rw [Nat.pow_succ, Nat.div_div_eq_div_mul]
    rw [e5, e3, Nat.add_mul_div_left _ _ hB]; omega
  · rw [hS']
    unfold Dg.dg
    obtain ⟨d, rfl⟩ : ∃ d, i = j + 1 + d := ⟨i - (j + 1), by omega⟩
    have e4 : x * y * B ^ (j + 1 + d) = B ^ j * (B * (x * y * B ^ d)) := by
      rw [Nat.pow_add, Nat.pow_succ]
      simp only [Nat.mul_comm, Nat.mul_left_comm, Nat.mul_assoc]
    rw [e4, Nat.add_mul_div_left _ _ (Nat.pow_pos hB), Nat.add_mul_mod_self_left]
theorem mask64 {x : Nat} (h : x < 18446744073709551616) : bits BinOp.and IntKind.u64 (x : Int) 65535 % 4294967296 = ((x % DB : Nat) : Int) := by
  have := u64_and_nat x 65535 h (by omega)
  rw [show (65535 : Nat) = 2 ^ 16 - 1 from rfl, Nat.and_two_pow_sub_one_eq_mod] at this
  have e : bits BinOp.and IntKind.u64 (x : Int) 65535 = ((x % 65536 : Nat) : Int) := this
  rw [e, DB_eq]; omega
set_option maxRecDepth 100000 in
set_option maxHeartbeats 1600000 in
theorem qmul_any (ao bo : Option Addr) (n c m d a b : Nat) (w : World) (ha : QN w ao n c a) (hb : QN w bo m d b) (hn : n ≤ 10000000) (hm : m ≤ 10000000) :
    Calls Tryz.prog 93 #[.slice ao n c, .slice bo m d] w (RetQN w (a * b)) := by
  have ha0 : a < DB ^ n := ha.lt
  have hb0 : b < DB ^ m := hb.lt
  have HA0 := Lib.hid ha0; have HB0 := Lib.hid hb0
  clear ha0 hb0
  go_enter Tryz.func93, Tryz.ntmps93
  go_wp2_with (refine wpList_make_row _ rfl (.tmp 13) (.tmp 13) _ rfl 64 .u32 4 Tryz.underlying29 qinfo32 .i64 .i64 _ _ (n + m) rfl rfl (by omega) (by omega) (by omega) (by omega) ?_; intro g w1 hg hown1 hb1)
  have hown2 : Own w1 .u32 64 g (n + m) (Dg.dg DB (a % DB ^ 0 * b)) := hown1.congr fun j _ => by simp [Nat.mod_one, Dg.dg_zero]
  clear hown1
  go_loopw [6] (fun i wr => ∃ k : Nat, k ≤ n ∧ i = .int .i64 k ∧ Own wr .u32 64 g (n + m) (Dg.dg DB (a % DB ^ k * b)) ∧ Below w.heap.size w wr) (fun i _ => n - (intOf i).toNat)
  case atStart => exact ⟨0, Nat.zero_le _, rfl, hown2, hb1⟩
  case round =>
    obtain ⟨i, hi, rfl, hown, hbel⟩ := hrel
    clear hown2
    by_cases hin : i < n
    · obtain ⟨x, hx⟩ : ∃ x, x = Dg.dg DB a i := ⟨_, rfl⟩
      have hxl : x < 65536 := by rw [hx]; exact Dg.dg_lt DBpos a i
      have HX := Lib.hid hx; clear hx
      have hsa := ha.rd.sh
      obtain ⟨X, hX⟩ : ∃ X, X = a % DB ^ i * b := ⟨_, rfl⟩
      rw [← hX] at hown
      have HXX := Lib.hid hX; clear hX
      go_wp2_with fail
      obtain ⟨wo, rfl⟩ : ∃ wo : World, wo = wr := ⟨_, rfl⟩
      go_loopw [7, 8] (fun cv i2 wr => ∃ k cr : Nat, k ≤ m ∧ i2 = .int .i64 k ∧ cv = .int .u64 cr ∧ cr < DB ∧ Hid ((X + x * (b % DB ^ k) * DB ^ i) / DB ^ (i + k) = X / DB ^ (i + k) + cr) ∧ Own wr .u32 64 g (n + m) (fun j => if j < i + k then Dg.dg DB (X + x * (b % DB ^ k) * DB ^ i) j else Dg.dg DB X j) ∧ Below w.heap.size w wr) (fun _ i2 _ => m - (intOf i2).toNat)
      case atStart => exact ⟨0, 0, Nat.zero_le _, rfl, rfl, DBpos, by simp [Nat.mod_one, Hid], hown.congr fun j _ => by simp [Nat.mod_one], hbel⟩
      case round =>
        obtain ⟨k, cr, hk, rfl, rfl, hcr, hcq, hown, hbel⟩ := hrel
        have hcr' : cr < 65536 := hcr
        clear hcr
        by_cases hkm : k < m
        · have hca : wr.cell? ⟨blk ao, off ao + i, none⟩ = some (.int .u32 (x : Nat)) := by rw [HX.out]; exact (ha.rd.below hbel (Nat.le_refl _)).cell i hin
          have hcb : wr.cell? ⟨blk bo, off bo + k, none⟩ = some (.int .u32 (Dg.dg DB b k : Nat)) := (hb.rd.below hbel (Nat.le_refl _)).cell k hkm
          have hsb := hb.rd.sh
          obtain ⟨y, hy⟩ : ∃ y, y = Dg.dg DB b k := ⟨_, rfl⟩
          rw [← hy] at hcb
          have hyl : y < 65536 := by rw [hy]; exact Dg.dg_lt DBpos b k
          have HY := Lib.hid hy; clear hy
          have hco : wr.cell? ⟨g, i + k, none⟩ = some (.int .u32 (Dg.dg DB X (i + k) : Nat)) := by simpa using hown.cell (i + k) (by omega)
          obtain ⟨z, hz⟩ : ∃ z, z = Dg.dg DB X (i + k) := ⟨_, rfl⟩
          rw [← hz] at hco
          have hzl : z < 65536 := by rw [hz]; exact Dg.dg_lt DBpos X _
          have HZ := Lib.hid hz; clear hz
          have hfr := hown.frozen (i + k)
          have hxy1 : x * y ≤ 65535 * 65535 := Nat.mul_le_mul (by omega) (by omega)
          have hxy : (x : Int) * (y : Int) ≤ 4294836225 := by
            have h2 : ((x * y : Nat) : Int) = (x : Int) * (y : Int) := Int.natCast_mul _ _
            omega
          have hxy0 : 0 ≤ (x : Int) * (y : Int) := by
            have h2 : ((x * y : Nat) : Int) = (x : Int) * (y : Int) := Int.natCast_mul _ _
            omega
          go_wp2_with fail
          go_quiet (fail)
          go_wp2_with fail
          obtain ⟨nw, hnw⟩ : ∃ nw, nw = cr + (z + x * y) := ⟨_, rfl⟩
          have hnwi : ((cr : Int) + ((z : Int) + (x : Int) * (y : Int))) = (nw : Nat) := by rw [hnw]; simp
          have hS' : X + x * (b % DB ^ (k + 1)) * DB ^ i = X + x * (b % DB ^ k) * DB ^ i + x * y * DB ^ (i + k) := by
            rw [Dg.mod_succ, ← HY.out, Nat.mul_add, Nat.add_mul, Nat.pow_add]
            have : x * (DB ^ k * y) * DB ^ i = x * y * (DB ^ i * DB ^ k) := by simp only [Nat.mul_comm, Nat.mul_left_comm, Nat.mul_assoc]
            omega
          have R := mul_stepB (i := i + k) DBpos hS' hcq.out (hnw.trans (by rw [HZ.out]))
          have hnw64 : nw < 18446744073709551616 := by omega
          have hnl : nw / DB < DB := by
            rw [DB_eq]; omega
          go_roundw
          case rel => exact ⟨k + 1, nw / DB, by omega, by go_num, by rw [hnwi]; rfl, hnl, R.2.1, own_set_int (hown.drewN _) (s := nw % DB) (by rw [hnwi]; exact mask64 hnw64) (by rw [if_pos (by omega)]; exact R.1) (fun j hj hne => by
            by_cases h1 : j < i + k
            · rw [if_pos h1, if_pos (by omega)]; exact (R.2.2 j h1).symm
            · rw [if_neg h1, if_neg (by omega)]), (below_drawn hbel _).setCell hg _⟩
          case measure => simp [intOf]; omega
        · obtain rfl : k = m := by omega
          have hS : X + x * (b % DB ^ k) * DB ^ i = a % DB ^ (i + 1) * b := by
            rw [Nat.mod_eq_of_lt HB0.out, Dg.mod_succ, ← HX.out, Nat.add_mul, ← HXX.out]
            have : x * b * DB ^ i = DB ^ i * x * b := by simp only [Nat.mul_comm, Nat.mul_assoc]
            omega
          have hXlt : X < DB ^ (i + k) := by
            rw [HXX.out, Nat.pow_add]
            exact Nat.mul_lt_mul'' (Nat.mod_lt _ (Nat.pow_pos DBpos)) HB0.out
          have hSlt : a % DB ^ (i + 1) * b < DB ^ (i + 1 + k) := by
            rw [Nat.pow_add DB (i + 1) k]
            exact Nat.mul_lt_mul'' (Nat.mod_lt _ (Nat.pow_pos DBpos)) HB0.out
          have hcrd : cr = Dg.dg DB (a % DB ^ (i + 1) * b) (i + k) := by
            have h1 := hcq.out
            rw [hS, Nat.div_eq_of_lt hXlt, Nat.zero_add] at h1
            unfold Dg.dg
            rw [h1, Nat.mod_eq_of_lt (by rw [DB_eq]; exact hcr')]
          have hco : wr.cell? ⟨g, i + k, none⟩ = some (.int .u32 (0 : Nat)) := by
            have h := hown.cell (i + k) (by omega)
            rw [if_neg (by omega), Dg.dg_of_lt_le DBpos hXlt (Nat.le_refl _)] at h
            exact h
          have hfr := hown.frozen (i + k)
          have HS := Lib.hid hS; have HXL := Lib.hid hXlt; have HSL := Lib.hid hSlt; have HCR := Lib.hid hcrd
          clear hS hXlt hSlt hcrd
          go_wp2_with fail
          go_roundw
          case rel => exact ⟨i + 1, by omega, by go_num, own_set_int hown (s := cr) (by simp) HCR.out (fun j hj hne => by
            rw [HS.out]
            by_cases h1 : j < i + k
            · rw [if_pos h1]
            · rw [if_neg h1, Dg.dg_of_lt_le DBpos HXL.out (by omega), Dg.dg_of_lt_le DBpos HSL.out (by omega)]), hbel.setCell hg _⟩
          case measure => simp [intOf]; omega
    · obtain rfl : i = n := by omega
      have hlt : a * b < DB ^ (i + m) := by rw [Nat.pow_add]; exact Nat.mul_lt_mul'' HA0.out HB0.out
      have hrd : Rd wr .u32 (some ⟨g, 0, none⟩) (i + m) (i + m) (Dg.dg DB (a * b)) := by
        have h := hown.rd; rw [Nat.mod_eq_of_lt HA0.out] at h; exact h
      have HLT := Lib.hid hlt; clear hlt
      go_wp2_with (go_at_call 74; refine (qtrim_num _ _ _ _ _ hrd HLT.out).mono ?_; rintro e w' ⟨k, rfl, hnum, rfl⟩)
      go_ret
      exact ⟨_, _, _, rfl, hnum, hbel⟩
end Go.Proofs.YtaggpodckafbgaaGreatDoor
