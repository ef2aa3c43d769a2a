/- der.told, der.is: the walks. -/
import Derived.Test.YtebhiplcoioenaaGreatDoorZZAs
namespace Go.Proofs.YtebhiplcoioenaaGreatDoor
open Go.RowKit

/-- What the library's variables hold: errors' own type. -/
def ErrTy (w : World) : Prop := w.cell? ⟨0, 0, none⟩ = some (.iface 144 (.agg #[.pointer (some ⟨7, 50, none⟩)]))
theorem ErrTy.below {w w' : World} (h : ErrTy w) (hb : Below w.heap.size w w') : ErrTy w' := (hb.cell (p := ⟨0, 0, none⟩) (World.block_lt_of_cell? w _ h)).trans h
theorem ErrTy.belowB {w w' : World} {B : Nat} (h : ErrTy w) (hb : Below B w w') (hB : 0 < B) : ErrTy w' := (hb.cell (p := ⟨0, 0, none⟩) hB).trans h
theorem setRow_below {B : Nat} {w w2 : World} {g : Nat} {cs : Array Value} (h : Below B w w2) (hg : B ≤ g) : Below B w (w2.setRow g cs) :=
  h.trans ⟨rfl, rfl, rfl, by simp, fun k hk => setRow_other w2 g k cs (by omega)⟩
set_option maxRecDepth 100000 in
set_option maxHeartbeats 4000000 in
theorem told_any (e : Int) (v : Value) (hv : ErrA e v) (w : World) (hg : ErrTy w) : Calls Tryz.prog 36 #[v] w (RetI e w) := by
  rcases hv with ⟨rfl, rfl⟩ | ⟨_, n, hv⟩
  · have HN : Hid (∀ t u, Calls Tryz.prog 70 #[.nilIface, t] u fun e w' => e = .returned (.bool false) ∧ w' = u) := Lib.hid As_nil
    go_enter Tryz.func36, Tryz.ntmps36
    go_wp2_with (go_at_call 70; refine (HN.out _ _).mono ?_; rintro e w1 ⟨rfl, rfl⟩)
    go_ret
    exact ⟨rfl, b_alloc _ _⟩
  · have HG := Lib.hid hg
    have HV := Lib.hid hv
    clear hg hv
    go_enter Tryz.func36, Tryz.ntmps36
    go_upto_region 2 with fail
    obtain ⟨gt, hgt⟩ : ∃ gt, gt = w.heap.size := ⟨_, rfl⟩
    obtain ⟨w1, hw1⟩ : ∃ w1, w1 = w.alloc (.cells #[.int .i64 0] 85) := ⟨_, rfl⟩
    rw [← hw1, ← hgt]
    have HB : Hid (Below w.heap.size w w1 ∧ w1.heap.size = gt + 1 ∧ w.heap.size = gt ∧ w1.heap[gt]? = some (.cells #[.int .i64 0] 85 (0, 0))) := Lib.hid ⟨by rw [hw1]; exact b_alloc _ _, by rw [hw1, hgt]; simp, hgt.symm, by rw [hw1, hgt]; exact heap_alloc_new _ _⟩
    have HA := Lib.hid (As_any e 0 gt n v HV.out w1 HB.out.2.2.2 (HG.out.below HB.out.1))
    clear hw1 hgt
    go_upto_region 3 with (go_at_call 70; refine HA.out.mono ?_; rintro en w3 ⟨rfl, w2, hb2, rfl⟩)
    have hrow : (w2.setRow gt #[.int .i64 e]).heap[gt]? = some (.cells #[.int .i64 e] 85 (0, 0)) := heap_row ((hb2.block gt (by have := HB.out.2.1; omega)).trans HB.out.2.2.2)
    have hc : (w2.setRow gt #[.int .i64 e]).cell? ⟨gt, 0, none⟩ = some (.int .i64 e) := by rw [cell_of_row _ gt 0 _ _ _ hrow]; rfl
    have HR : Hid (Below w.heap.size w (w2.setRow gt #[.int .i64 e])) := Lib.hid (setRow_below (HB.out.1.trans (hb2.mono HB.out.1.size)) (by have := HB.out.2.2.1; omega))
    generalize w2.setRow gt #[.int .i64 e] = w4 at *
    clear hrow hb2
    go_wp2_with fail
    go_ret
    exact ⟨rfl, HR.out⟩
theorem is_any (b : Bool) (e : Int) (w : World) : Calls Tryz.prog 34 #[.bool b, .int .i64 e] w fun en w' => en = .returned (if b then wrV e else .nilIface) ∧ w' = w := by
  cases b with
  | true =>
    go_enter Tryz.func34, Tryz.ntmps34
    go_wp2
    go_ret
    exact ⟨rfl, rfl⟩
  | false =>
    go_enter Tryz.func34, Tryz.ntmps34
    go_wp2
    go_ret
    exact ⟨rfl, rfl⟩
end Go.Proofs.YtebhiplcoioenaaGreatDoor
