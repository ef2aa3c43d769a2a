/- pow: the walk, its closures each by a contract of its own. -/
import Derived.Test.YtbmhiejggkdnkaaGreatDoorRedc
namespace Go.Proofs.YtbmhiejggkdnkaaGreatDoor
open Go.RowKit

/-- A variable that closures capture: a block of one cell. -/
def Bx (w : World) (g : Nat) (v : Value) (t : Nat) : Prop := w.heap[g]? = some (.cells #[v] t (0, 0))
theorem Bx.lt {w : World} {g : Nat} {v : Value} {t : Nat} (h : Bx w g v t) : g < w.heap.size := lt_of_block h
theorem Bx.below {w w' : World} {B : Nat} {g : Nat} {v : Value} {t : Nat} (h : Bx w g v t) (hb : Below B w w') (hB : w.heap.size ≤ B) : Bx w' g v t :=
  (hb.block g (Nat.lt_of_lt_of_le h.lt hB)).trans h
theorem Bx.cell {w : World} {g : Nat} {v : Value} {t : Nat} (h : Bx w g v t) : w.cell? ⟨g, 0, none⟩ = some v := cell_of_one h
theorem Bx.free {w : World} {g : Nat} {v : Value} {t : Nat} (h : Bx w g v t) : w.frozen? ⟨g, 0, none⟩ = false := free_of_one h
theorem Bx.set {w : World} {g : Nat} {v u : Value} {t : Nat} (h : Bx w g v t) : Bx (w.setCell ⟨g, 0, none⟩ u) g u t := one_setCell h
theorem Bx.drewN {w : World} {g : Nat} {v : Value} {t : Nat} (h : Bx w g v t) (q : Nat) : Bx (w.drewN q) g v t := h
theorem Bx.new (w : World) (v : Value) (t : Nat) : Bx (w.alloc (.cells #[v] t)) w.heap.size v t :=
  heap_alloc_new _ _
theorem Bx.alloc {w : World} {g : Nat} {v : Value} {t : Nat} (h : Bx w g v t) (o : Obj) : Bx (w.alloc o) g v t :=
  h.below ((Below.refl w.heap.size w).alloc (Nat.le_refl _) o) (Nat.le_refl _)

theorem prod_any {x y n k : Nat} (hx : x < LB ^ n) (hy : y < LB ^ k) : x * y < LB ^ (n + k) := by
  rw [Nat.pow_add]; exact Nat.mul_lt_mul'' hx hy

set_option maxRecDepth 100000 in
theorem times_even (xo yo mo : Option Addr) (n c n' c' k d x y m gm : Nat) (w : World) (hx : Num w xo n c x) (hy : Num w yo n' c' y) (hbx : Bx w gm (.slice mo k d) 52) (hm : Num w mo k d m) (hm0 : 0 < m) (hn : n ≤ 128) (hn' : n' ≤ 128) :
    Calls Tryz.prog 61 #[.slice xo n c, .slice yo n' c', .pointer (some ⟨gm, 0, none⟩)] w (RetNum w (x * y % m)) := by
  have hxl : x < LB ^ n := hx.lt
  have hyl : y < LB ^ n' := hy.lt
  have HXL := Lib.hid hxl; have HYL := Lib.hid hyl; have HM0 := Lib.hid hm0; clear hxl hyl hm0
  have hcm := hbx.cell
  go_enter Tryz.func61, Tryz.ntmps61
  go_wp2_with fail
  go_region_with (first
    | (go_at_call 37; refine (mul_any _ _ _ _ _ _ x y _ (hx.below (below_drawn (Below.refl w.heap.size w) _) (Nat.le_refl _)) (hy.below (below_drawn (Below.refl w.heap.size w) _) (Nat.le_refl _)) (by omega) (by omega)).mono ?_; rintro e w1 ⟨o1, n1, c1, rfl, h1, hb1'⟩; have hb1 := (below_drawn (Below.refl w.heap.size w) _).trans hb1'; have hn1 : n1 ≤ 257 := Nat.le_trans (num_len_le h1 (prod_any HXL.out HYL.out)) (by omega); have hcm1 := (hbx.below hb1 (Nat.le_refl _)).cell)
    | (go_at_call 47; refine (left_any _ _ _ _ _ _ _ m _ h1 (hm.below hb1 (Nat.le_refl _)) HM0.out (by omega)).mono ?_; rintro e w2 ⟨o2, n2, c2, rfl, h2, hb2⟩))
  all_goals (try go_wp2_with fail)
  all_goals go_ret
  all_goals exact ⟨_, _, _, rfl, h2, hb1.trans (hb2.mono hb1.size)⟩

set_option maxRecDepth 100000 in
theorem into_even (xo mo : Option Addr) (n c k d x m gm : Nat) (w : World) (hx : Num w xo n c x) (hbx : Bx w gm (.slice mo k d) 52) (hm : Num w mo k d m) (hm0 : 0 < m) (hn : n ≤ 128) :
    Calls Tryz.prog 62 #[.slice xo n c, .pointer (some ⟨gm, 0, none⟩)] w (RetNum w (x % m)) := by
  have HM0 := Lib.hid hm0; clear hm0
  have hcm := hbx.cell
  go_enter Tryz.func62, Tryz.ntmps62
  go_wp2_with fail
  refine (left_any _ _ _ _ _ _ _ m _ hx hm HM0.out (by omega)).mono ?_
  rintro e w2 ⟨o2, n2, c2, rfl, h2, hb2⟩
  go_wp2_with fail
  go_ret
  exact ⟨_, _, _, rfl, h2, hb2⟩

set_option maxRecDepth 100000 in
theorem into_odd (xo mo ro : Option Addr) (n c k d x m gm gr rn rc r : Nat) (w : World) (hx : Num w xo n c x) (hbx : Bx w gm (.slice mo k d) 52) (hbr : Bx w gr (.slice ro rn rc) 52) (hr : Num w ro rn rc r) (hrn : rn ≤ 129) (hm : Num w mo k d m) (hm0 : 0 < m) (hn : n ≤ 128) :
    Calls Tryz.prog 63 #[.slice xo n c, .pointer (some ⟨gr, 0, none⟩), .pointer (some ⟨gm, 0, none⟩)] w (RetNum w (x * r % m)) := by
  have hxl : x < LB ^ n := hx.lt
  have hrl : r < LB ^ rn := hr.lt
  have HXL := Lib.hid hxl; have HRL := Lib.hid hrl; have HM0 := Lib.hid hm0; clear hxl hrl hm0
  have hcm := hbx.cell
  have hcr := hbr.cell
  go_enter Tryz.func63, Tryz.ntmps63
  go_wp2_with fail
  go_region_with (first
    | (go_at_call 37; refine (mul_any _ _ _ _ _ _ x r _ (hx.below (below_drawn (Below.refl w.heap.size w) _) (Nat.le_refl _)) (hr.below (below_drawn (Below.refl w.heap.size w) _) (Nat.le_refl _)) (by omega) (by omega)).mono ?_; rintro e w1 ⟨o1, n1, c1, rfl, h1, hb1'⟩; have hb1 := (below_drawn (Below.refl w.heap.size w) _).trans hb1'; have hn1 : n1 ≤ 257 := Nat.le_trans (num_len_le h1 (prod_any HXL.out HRL.out)) (by omega); have hcm1 := (hbx.below hb1 (Nat.le_refl _)).cell)
    | (go_at_call 47; refine (left_any _ _ _ _ _ _ _ m _ h1 (hm.below hb1 (Nat.le_refl _)) HM0.out (by omega)).mono ?_; rintro e w2 ⟨o2, n2, c2, rfl, h2, hb2⟩))
  all_goals (try go_wp2_with fail)
  all_goals go_ret
  all_goals exact ⟨_, _, _, rfl, h2, hb1.trans (hb2.mono hb1.size)⟩

set_option maxRecDepth 100000 in
theorem times_odd (xo yo mo : Option Addr) (n c n' c' k d x y m kk gm gk : Nat) (w : World) (hx : Num w xo n c x) (hy : Num w yo n' c' y) (hbx : Bx w gm (.slice mo k d) 52) (hbk : Bx w gk (.int .u32 kk) 74) (hm : Num w mo k d m) (hm0 : 0 < m) (hxm : x ≤ m) (hym : y ≤ m) (hkk : LB ∣ m * kk + 1) (hk : k ≤ 128) :
    Calls Tryz.prog 64 #[.slice xo n c, .slice yo n' c', .pointer (some ⟨gm, 0, none⟩), .pointer (some ⟨gk, 0, none⟩)] w (RedcPost x y m k w) := by
  have HM0 := Lib.hid hm0; have HXM := Lib.hid hxm; have HYM := Lib.hid hym; have HKK := Lib.hid hkk; clear hm0 hxm hym hkk
  have hcm := hbx.cell
  have hck := hbk.cell
  go_enter Tryz.func64, Tryz.ntmps64
  go_wp2_with fail
  refine (redc_any _ _ _ _ _ _ _ _ _ x y m kk _ hx hy hm HM0.out HXM.out HYM.out HKK.out hk).mono ?_
  rintro e w2 ⟨z, hz1, hz2, o2, n2, c2, rfl, h2, hb2⟩
  have HZ1 := Lib.hid hz1; have HZ2 := Lib.hid hz2; clear hz1 hz2
  go_wp2_with fail
  go_ret
  exact ⟨z, HZ1.out, HZ2.out, _, _, _, rfl, h2, hb2⟩

set_option maxRecDepth 100000 in
theorem back_odd (xo mo : Option Addr) (n c k d x m kk gm gk : Nat) (w : World) (hx : Num w xo n c x) (hbx : Bx w gm (.slice mo k d) 52) (hbk : Bx w gk (.int .u32 kk) 74) (hm : Num w mo k d m) (hm0 : 0 < m) (hxm : x ≤ m) (hkk : LB ∣ m * kk + 1) (hk : k ≤ 128) :
    Calls Tryz.prog 66 #[.slice xo n c, .pointer (some ⟨gm, 0, none⟩), .pointer (some ⟨gk, 0, none⟩)] w (RedcPost x 1 m k w) := by
  have HM0 := Lib.hid hm0; have HXM := Lib.hid hxm; have HKK := Lib.hid hkk; clear hm0 hxm hkk
  have hcm := (hbx.alloc (.cells #[.int .u32 1] 74)).cell
  have hck := (hbk.alloc (.cells #[.int .u32 1] 74)).cell
  go_enter Tryz.func66, Tryz.ntmps66
  go_wp2_with fail
  have hbo : Below w.heap.size w (w.alloc (.cells #[.int .u32 1] 74)) := (Below.refl _ _).alloc (Nat.le_refl _) _
  refine (redc_any _ _ _ _ _ _ _ _ _ x 1 m kk _ (hx.below hbo (Nat.le_refl _)) (one_num w _ rfl) (hm.below hbo (Nat.le_refl _)) HM0.out HXM.out (by have := HM0.out; omega) HKK.out hk).mono ?_
  rintro e w2 ⟨z, hz1, hz2, o2, n2, c2, rfl, h2, hb2⟩
  have HZ1 := Lib.hid hz1; have HZ2 := Lib.hid hz2; clear hz1 hz2
  go_wp2_with fail
  go_ret
  exact ⟨z, HZ1.out, HZ2.out, _, _, _, rfl, h2, hbo.trans (hb2.mono hbo.size)⟩
end Go.Proofs.YtbmhiejggkdnkaaGreatDoor
