/- RKit RLong RPow, in one text. -/
import Derived.Test.YtjkjlbchbbpmaaaGreatDoorZK1
import Derived.Test.YtjkjlbchbbpmaaaGreatDoorZR0
import Derived.Laws.Rows
import Derived.Test.YtjkjlbchbbpmaaaGreatDoorZN4
/- What the laws take of the reference. -/
namespace Go.Proofs.YtjkjlbchbbpmaaaGreatDoor
open Go.RowKit

theorem of_ok (s : ByteArray) (A : Nat) (w : World) (hs : s.size ≤ 10000000) (hA : nv s = A) :
    Calls Tryz.prog 27 #[.string s] w fun e w' => ∃ ao n c, e = .returned (.slice ao n c) ∧ RN w' ao n c A ∧ Below w.heap.size w w' := by
  have h := of_any s w hs
  rw [show bv s.data.toList = A from hA] at h
  exact h
theorem form_ok (ao : Option Addr) (n c v : Nat) (w : World) (ha : RN w ao n c v) (hn : n ≤ 10000000) :
    Calls Tryz.prog 28 #[.slice ao n c] w fun e w' => e = .returned (.string (tx v)) ∧ Below w.heap.size w w' := rform_any ao n c v w ha hn
theorem rcmp_ok (ao bo : Option Addr) (n c m d a b : Nat) (w : World) (ha : RN w ao n c a) (hb : RN w bo m d b) :
    Calls Tryz.prog 31 #[.slice ao n c, .slice bo m d] w fun e w' => e = .returned (.int .i64 (cmpN a b)) ∧ Below w.heap.size w w' :=
  (rcmp_any ao bo n c m d a b w ha hb).mono fun _ _ ⟨he, q, hq⟩ => ⟨he, by rw [hq]; exact below_drawn (Below.refl _ _) q⟩
theorem bits_okB (a : ByteArray) (A : Nat) (w : World) (ha : a.size ≤ 1152921504606846975) (hA : nv a = A) :
    Calls Tryz.prog 25 #[.string a] w fun e w' => e = .returned (.int .i64 (Dg.len 2 A)) ∧ Below w.heap.size w w' := by
  have h := Bits_any a w ha
  rw [hA] at h
  exact h.mono fun _ _ ⟨he, q, hq⟩ => ⟨he, by rw [hq]; exact below_drawn (Below.refl _ _) q⟩
theorem rn_of_lt {w : World} {ao : Option Addr} {n c v k : Nat} (h : RN w ao n c v) (hv : v < 256 ^ (2 * k)) : n ≤ k := h.le (by rwa [show DB = 256 ^ 2 from rfl, ← Nat.pow_mul])
theorem rn_zero {w : World} {ao : Option Addr} {n c v : Nat} (h : RN w ao n c v) : n = 0 ↔ v = 0 := by
  rw [h.len]
  exact ⟨Dg.eq_zero_of_len DB2, fun h => by rw [h, Dg.len_zero]⟩
theorem nv_pre (l : List UInt8) (a : ByteArray) (h : bv l = 0) : nv (⟨l.toArray⟩ ++ a) = nv a := by
  unfold nv
  have e : ((⟨l.toArray⟩ : ByteArray) ++ a).data.toList = l ++ a.data.toList := by simp
  rw [e, bv_append, h]; simp
end Go.Proofs.YtjkjlbchbbpmaaaGreatDoor
/- The reference's Left and Long: the walks. -/
namespace Go.Proofs.YtjkjlbchbbpmaaaGreatDoor
open Go.RowKit

theorem rleft_any (ao bo : Option Addr) (n c m d a b : Nat) (w : World) (ha : RN w ao n c a) (hb : RN w bo m d b) (hb0 : 0 < b) (hn : n ≤ 10000000) (hm : m ≤ 10000000) :
    Calls Tryz.prog 58 #[.slice ao n c, .slice bo m d] w (RetRN w (a % b)) := by
  go_enter Tryz.func58, Tryz.ntmps58
  go_wp2_with fail
  refine (rdiv_any ao bo n c m d a b _ ha hb hb0 hn hm).mono ?_
  rintro e w' ⟨qo, qn, qc, ro, rn, rc, rfl, hq, hr, hbel⟩
  go_wp2_with fail
  go_ret
  exact ⟨_, _, _, rfl, hr, hbel⟩

/-- Block g holds these cells and may be written. -/
def Arr (w : World) (g : Nat) (cs : Array Value) (t : Nat) : Prop := w.heap[g]? = some (.cells cs t (0, 0))
theorem Arr.lt {w : World} {g : Nat} {cs : Array Value} {t : Nat} (h : Arr w g cs t) : g < w.heap.size := (Array.getElem?_eq_some_iff.1 h).1
theorem Arr.below {w w' : World} {B : Nat} {g : Nat} {cs : Array Value} {t : Nat} (h : Arr w g cs t) (hb : Below B w w') (hB : w.heap.size ≤ B) : Arr w' g cs t :=
  (hb.block g (Nat.lt_of_lt_of_le h.lt hB)).trans h
theorem Arr.new (w : World) (cs : Array Value) (t : Nat) : Arr (w.alloc (.cells cs t)) w.heap.size cs t := heap_alloc_new _ _
theorem Arr.cell {w : World} {g : Nat} {cs : Array Value} {t : Nat} (h : Arr w g cs t) {j : Nat} {v : Value} (hv : cs[j]? = some v) : w.cell? ⟨g, j, none⟩ = some v := by
  have hh : w.heap[g]? = some (.cells cs t (0, 0)) := h
  simp [World.cell?, hh, hv]
theorem Arr.frozen {w : World} {g : Nat} {cs : Array Value} {t : Nat} (h : Arr w g cs t) (j : Nat) : w.frozen? ⟨g, j, none⟩ = false := by
  have hh : w.heap[g]? = some (.cells cs t (0, 0)) := h
  simp [World.frozen?, hh]
theorem Arr.set {w : World} {g : Nat} {cs : Array Value} {t : Nat} (h : Arr w g cs t) (j : Nat) (v : Value) : Arr (w.setCell ⟨g, j, none⟩ v) g (cs.setIfInBounds j v) t :=
  heap_setCell_same w g j cs t _ h
theorem Arr.other {w : World} {g : Nat} {cs : Array Value} {t : Nat} (h : Arr w g cs t) {a : Addr} {v : Value} (ha : g ≠ a.block) : Arr (w.setCell a v) g cs t :=
  (heap_setCell_other w a g v ha).trans h
theorem cell_other (w : World) (a : Addr) (v : Value) (p : Addr) (h : p.block ≠ a.block) : (w.setCell a v).cell? p = w.cell? p := by
  unfold World.cell?
  rw [heap_setCell_other w a p.block v h]
theorem rn_same {w w' : World} {ao : Option Addr} {n c v g : Nat} (h : RN w ao n c v) (hs : ∀ b o, b ≠ g → w'.cell? ⟨b, o, none⟩ = w.cell? ⟨b, o, none⟩) (hg : n = 0 ∨ blk ao ≠ g) : RN w' ao n c v :=
  ⟨h.len, h.rd.sh, h.rd.le, h.rd.cm, fun j hj => by
    rcases hg with h0 | h0
    · omega
    · rw [hs _ _ h0]; exact h.rd.cell j hj⟩
theorem rn_off {w : World} {ao : Option Addr} {n c v g : Nat} (h : RN w ao n c v) (hg : w.heap.size ≤ g) : n = 0 ∨ blk ao ≠ g := by
  rcases Nat.eq_zero_or_pos n with h0 | h0
  · exact Or.inl h0
  · right
    have := h.rd.lt h0
    omega
theorem Arr.drewN {w : World} {g : Nat} {cs : Array Value} {t : Nat} (h : Arr w g cs t) (q : Nat) : Arr (w.drewN q) g cs t := h

theorem pairsf {w : World} {a b : ByteArray} : ∀ j, j < 2 → (w.alloc (.cells #[.string a, .string b] 9)).cell? ⟨w.heap.size, j, none⟩ = some (.string ((fun i => if i = 0 then a else b) j)) := fun j hj => by
  have h : j = 0 ∨ j = 1 := by omega
  rcases h with rfl | rfl
  · exact (Arr.new w _ _).cell rfl
  · exact (Arr.new w _ _).cell rfl
end Go.Proofs.YtjkjlbchbbpmaaaGreatDoor
/- The reference's Gcd and Pow: the walks. -/
namespace Go.Proofs.YtjkjlbchbbpmaaaGreatDoor
open Go.RowKit

theorem gcd_even_even {x y : Nat} (hx : x % 2 = 0) (hy : y % 2 = 0) : Nat.gcd x y = 2 * Nat.gcd (x / 2) (y / 2) := by
  rw [← Nat.gcd_mul_left, show 2 * (x / 2) = x from by omega, show 2 * (y / 2) = y from by omega]
theorem co_two {y : Nat} (hy : y % 2 = 1) : Nat.Coprime 2 y := by
  unfold Nat.Coprime
  rw [Nat.gcd_rec, hy]; rfl
theorem gcd_even_odd {x y : Nat} (hx : x % 2 = 0) (hy : y % 2 = 1) : Nat.gcd (x / 2) y = Nat.gcd x y := by
  have h := (co_two hy).gcd_mul_left_cancel (x / 2)
  rw [show 2 * (x / 2) = x from by omega] at h
  exact h.symm
theorem gcd_odd_even {x y : Nat} (hx : x % 2 = 1) (hy : y % 2 = 0) : Nat.gcd x (y / 2) = Nat.gcd x y := by
  rw [Nat.gcd_comm, gcd_even_odd hy hx, Nat.gcd_comm]
theorem gcd_sub_left' {x y : Nat} (h : y ≤ x) : Nat.gcd (x - y) y = Nat.gcd x y := by
  have e := Nat.gcd_add_self_left y (x - y)
  rw [show x - y + y = x from by omega] at e
  exact e.symm
theorem gcd_sub_right' {x y : Nat} (h : x ≤ y) : Nat.gcd x (y - x) = Nat.gcd x y := by
  rw [Nat.gcd_comm, gcd_sub_left' h, Nat.gcd_comm]
theorem dg_parity (x : Nat) : Dg.dg DB x 0 % 2 = x % 2 := by
  unfold Dg.dg
  rw [Nat.pow_zero, Nat.div_one, DB_eq]
  omega

def RNS (w : World) (s : Sl) (v : Nat) : Prop := RN w s.a s.n s.c v
theorem RNS.rn {w : World} {s : Sl} {v : Nat} (h : RNS w s v) : RN w s.a s.n s.c v := h
theorem RNS.below {w w' : World} {s : Sl} {v : Nat} (h : RNS w s v) (hb : Below w.heap.size w w') : RNS w' s v := RN.below h hb (Nat.le_refl _)

theorem rone_num (w : World) : RN (w.alloc (.cells #[.int .u64 1] 51)) (some ⟨w.heap.size, 0, none⟩) 1 1 1 := by
  have hl : Dg.len DB 1 = 1 := by rw [Dg.len_pos DB2 (by omega), Nat.div_eq_of_lt (by rw [DB_eq]; omega), Dg.len_zero]
  refine ⟨hl.symm, Sh.some _ _ _, Nat.le_refl _, by decide, fun j hj => ?_⟩
  obtain rfl : j = 0 := by omega
  have h := new_cells w #[.int .u64 1] 51 0 (.int .u64 1) rfl
  have hd : Dg.dg DB 1 0 = 1 := by unfold Dg.dg; rw [Nat.pow_zero, Nat.div_one, Nat.mod_eq_of_lt (by rw [DB_eq]; omega)]
  rw [hd]; exact h

/-- One binary digit of a power. -/
theorem pow_bit (a e m k : Nat) {o : Nat} (ho : o = a ^ (e / 2 ^ (k + 1)) % m) :
    (Dg.dg 2 e k = 0 → o * o % m = a ^ (e / 2 ^ k) % m) ∧ (Dg.dg 2 e k = 1 → (o * o % m) * a % m = a ^ (e / 2 ^ k) % m) := by
  have e0 : e / 2 ^ k = 2 * (e / 2 ^ (k + 1)) + Dg.dg 2 e k := by
    unfold Dg.dg
    rw [Nat.pow_succ, ← Nat.div_div_eq_div_mul]
    exact (Nat.div_add_mod _ _).symm
  have e1 : o * o % m = a ^ (2 * (e / 2 ^ (k + 1))) % m := by
    rw [ho, ← Nat.mul_mod, ← Nat.pow_add, Nat.two_mul]
  refine ⟨fun h => by rw [e0, h, Nat.add_zero]; exact e1, fun h => ?_⟩
  rw [e0, h, Nat.pow_succ, e1, Nat.mod_mul_mod]

set_option maxRecDepth 100000 in
set_option maxHeartbeats 3200000 in
theorem rpow_any (ao eo mo : Option Addr) (n c n' c' k d a e m : Nat) (w : World) (ha : RN w ao n c a) (he : RN w eo n' c' e) (hm : RN w mo k d m) (hm0 : 0 < m) (hn : n ≤ 1000) (hn' : n' ≤ 1000) (hk : k ≤ 1000) :
    Calls Tryz.prog 35 #[.slice ao n c, .slice eo n' c', .slice mo k d] w (RetRN w (a ^ e % m)) := by
  have he2 : e < 2 ^ Dg.len 2 e := Dg.lt_pow_len (by omega) e
  have hl16 : Dg.len 2 e ≤ 16 * n' := (Dg.len_le_iff (by omega) e (16 * n')).2 (by have h := he.lt; rwa [show DB = 2 ^ 16 from rfl, ← Nat.pow_mul] at h)
  obtain ⟨L, hL⟩ : ∃ L, L = Dg.len 2 e := ⟨_, rfl⟩
  rw [← hL] at he2 hl16
  have hml : m < DB ^ k := hm.lt
  have hal : a < DB ^ n := ha.lt
  have HL := Lib.hid hL; have HE2 := Lib.hid he2; have HM0 := Lib.hid hm0; have HML := Lib.hid hml; have HAL := Lib.hid hal
  clear hL he2 hm0 hml hal
  go_enter Tryz.func35, Tryz.ntmps35
  go_wp2_with fail
  have hbo : Below w.heap.size w (w.alloc (.cells #[.int .u64 1] 51)) := (Below.refl _ _).alloc (Nat.le_refl _) _
  refine (rleft_any _ _ _ _ _ _ 1 m _ (rone_num w) (hm.below hbo (Nat.le_refl _)) HM0.out (by omega) (by omega)).mono ?_
  rintro e1 w1 ⟨oo, on, oc, rfl, hO, hb1⟩
  have hb1 : Below w.heap.size w w1 := hbo.trans (hb1.mono hbo.size)
  go_wp2_with fail
  refine (bits_any _ _ _ e _ (he.below hb1 (Nat.le_refl _)) (by omega)).mono ?_
  rintro e1 w' ⟨rfl, rfl⟩
  rw [← HL.out]
  go_wp2_with fail
  have hO1 : RN w1 oo on oc (a ^ (e / 2 ^ L) % m) := by rw [Nat.div_eq_of_lt HE2.out, Nat.pow_zero]; exact hO
  clear hO hbo
  go_loopw [7, 8] (fun so iv wr => ∃ (S : Sl) (j : Nat), j ≤ L ∧ so = .slice S.a S.n S.c ∧ iv = .int .i64 ((j : Int) - 1) ∧ RNS wr S (a ^ (e / 2 ^ j) % m) ∧ Below w.heap.size w wr) (fun _ iv _ => (intOf iv + 1).toNat)
  case atStart => exact ⟨⟨oo, on, oc⟩, L, Nat.le_refl _, rfl, rfl, hO1, hb1⟩
  case round =>
    obtain ⟨S, j, hj, rfl, rfl, hS, hbel⟩ := hrel
    clear hO1 hb1
    by_cases hj0 : 0 < j
    · obtain ⟨t, rfl⟩ : ∃ t, j = t + 1 := ⟨j - 1, by omega⟩
      obtain ⟨o, ho⟩ : ∃ o, o = a ^ (e / 2 ^ (t + 1)) % m := ⟨_, rfl⟩
      rw [← ho] at hS
      have hol : o < m := by rw [ho]; exact Nat.mod_lt _ HM0.out
      have PB := pow_bit a e m t ho
      obtain ⟨x, hx⟩ : ∃ x, x = Dg.dg 2 e t := ⟨_, rfl⟩
      rw [← hx] at PB
      have hxl : x < 2 := by rw [hx]; exact Dg.dg_lt (by omega) _ _
      have hSn : S.n ≤ k := hS.rn.le (Nat.lt_trans hol HML.out)
      have HPB := Lib.hid PB; have HX := Lib.hid hx; have HOL := Lib.hid hol
      clear PB hx ho hol
      have hme := hm.below hbel (Nat.le_refl _)
      have hee := he.below hbel (Nat.le_refl _)
      have hae := ha.below hbel (Nat.le_refl _)
      go_wp2_with fail
      refine (rtimes_any _ _ _ _ _ _ o o _ hS.rn hS.rn (by omega) (by omega)).mono ?_
      rintro e1 w2 ⟨po, tn, tc, rfl, hT, hb2⟩
      have hTn : tn ≤ k + k := hT.le (by rw [Nat.pow_add]; exact Nat.mul_lt_mul'' (Nat.lt_trans HOL.out HML.out) (Nat.lt_trans HOL.out HML.out))
      go_wp2_with fail
      refine (rleft_any _ _ _ _ _ _ (o * o) m _ hT (hme.below hb2 (Nat.le_refl _)) HM0.out (by omega) (by omega)).mono ?_
      rintro e1 w3 ⟨uo, un, uc, rfl, hU, hb3⟩
      have hb23 := hb2.trans (hb3.mono hb2.size)
      go_wp2_with fail
      refine (bit_any _ _ _ e t _ (hee.below hb23 (Nat.le_refl _)) (by omega)).mono ?_
      rintro e1 w' ⟨rfl, rfl⟩
      rw [← HX.out]
      by_cases hx1 : x = 1
      · have hxb : ((x : Int) == 1) = true := by rw [beq_iff_eq]; omega
        have HX1 := Lib.hid hx1; clear hx1
        have hUl : o * o % m < m := Nat.mod_lt _ HM0.out
        have hUn : un ≤ k := hU.le (Nat.lt_trans hUl HML.out)
        have HUL := Lib.hid hUl; clear hUl
        go_wp2_with fail
        refine (rtimes_any _ _ _ _ _ _ (o * o % m) a _ hU (hae.below hb23 (Nat.le_refl _)) (by omega) (by omega)).mono ?_
        rintro e1 w4 ⟨vo, vn, vc, rfl, hV, hb4⟩
        have hVn : vn ≤ k + n := hV.le (by rw [Nat.pow_add]; exact Nat.mul_lt_mul'' (Nat.lt_trans HUL.out HML.out) HAL.out)
        have hb24 := hb23.trans (hb4.mono hb23.size)
        go_wp2_with fail
        refine (rleft_any _ _ _ _ _ _ (o * o % m * a) m _ hV (hme.below hb24 (Nat.le_refl _)) HM0.out (by omega) (by omega)).mono ?_
        rintro e1 w5 ⟨xo, xn, xc, rfl, hX5, hb5⟩
        have hb25 := hb24.trans (hb5.mono hb24.size)
        go_wp2_with fail
        go_roundw
        case rel => exact ⟨⟨xo, xn, xc⟩, t, by omega, rfl, by go_num, (by rw [← HPB.out.2 HX1.out]; exact hX5), hbel.trans (hb25.mono hbel.size)⟩
        case measure => simp [intOf]
      · have hxb : ((x : Int) == 1) = false := by rw [beq_eq_false_iff_ne]; omega
        have hx0 : x = 0 := by omega
        have HX0 := Lib.hid hx0; clear hx1 hx0
        go_wp2_with fail
        go_roundw
        case rel => exact ⟨⟨uo, un, uc⟩, t, by omega, rfl, by go_num, (by rw [← HPB.out.1 HX0.out]; exact hU), hbel.trans (hb23.mono hbel.size)⟩
        case measure => simp [intOf]
    · obtain rfl : j = 0 := by omega
      go_wp2_with fail
      go_ret
      exact ⟨_, _, _, rfl, (by rw [Nat.pow_zero, Nat.div_one] at hS; exact hS), hbel⟩
end Go.Proofs.YtjkjlbchbbpmaaaGreatDoor
