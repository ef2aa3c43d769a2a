/- ostiaryref15.Same of one request at two places: the walk. -/
import Derived.Test.YtipjkjcmceeaeaaGreatDoorYReq
import Derived.Test.YtipjkjcmceeaeaaGreatDoorYLine
namespace Go.Proofs.YtipjkjcmceeaeaaGreatDoor
open Go.RowKit

set_option maxRecDepth 100000 in
set_option maxHeartbeats 8000000 in
theorem same_any (q : Rq) (ad1 ad2 : Option Addr) (c1 c2 : Nat) (w : World) (h1 : SlH w q.hs ad1 c1) (h2 : SlH w q.hs ad2 c2) : Calls Tryz.prog 12 #[rqv q ad1 c1, rqv q ad2 c2] w (RetB true w) := by
  have hMX := MX_eq
  obtain ⟨hle1, hcm1, b1, f1, had1, hrow1⟩ := h1
  obtain ⟨hle2, hcm2, b2, f2, had2, hrow2⟩ := h2
  have HROW1 := Lib.hid hrow1
  have HROW2 := Lib.hid hrow2
  clear hrow1 hrow2
  have hR := Rws.start w
  have q0 : ∀ x : Bs, ((bs x).toList == (bs x).toList) = true := fun x => by simp
  have q1 := q0 q.m; have q2 := q0 q.t; have q3 := q0 q.b
  have HQ0 := Lib.hid q0
  clear q0
  go_enter Tryz.func12, Tryz.ntmps12
  go_upto_region 1 with (first
    | (refine wpList_box_rws rfl _ _ (by rfl) (by exact hR) (rqC q ad1 c1) rfl ?_; intro g1 w1 hR)
    | (refine wpList_box_rws rfl _ _ (by rfl) (by exact hR) (rqC q ad2 c2) rfl ?_; intro g2 w2 hR))
  have a0 : w2.cell? ⟨g1, 0, none⟩ = some (.string (bs q.m)) := hR.cellAt (g := g1) (by repeat (first | exact List.Mem.head _ | refine List.Mem.tail _ ?_)) 0 rfl
  have a1 : w2.cell? ⟨g1, 1, none⟩ = some (.string (bs q.t)) := hR.cellAt (g := g1) (by repeat (first | exact List.Mem.head _ | refine List.Mem.tail _ ?_)) 1 rfl
  have a2 : w2.cell? ⟨g1, 2, none⟩ = some (.slice ad1 q.hs.length c1) := hR.cellAt (g := g1) (by repeat (first | exact List.Mem.head _ | refine List.Mem.tail _ ?_)) 2 rfl
  have a3 : w2.cell? ⟨g1, 3, none⟩ = some (.string (bs q.b)) := hR.cellAt (g := g1) (by repeat (first | exact List.Mem.head _ | refine List.Mem.tail _ ?_)) 3 rfl
  have d0 : w2.cell? ⟨g2, 0, none⟩ = some (.string (bs q.m)) := hR.cellAt (g := g2) (by repeat (first | exact List.Mem.head _ | refine List.Mem.tail _ ?_)) 0 rfl
  have d1 : w2.cell? ⟨g2, 1, none⟩ = some (.string (bs q.t)) := hR.cellAt (g := g2) (by repeat (first | exact List.Mem.head _ | refine List.Mem.tail _ ?_)) 1 rfl
  have d2 : w2.cell? ⟨g2, 2, none⟩ = some (.slice ad2 q.hs.length c2) := hR.cellAt (g := g2) (by repeat (first | exact List.Mem.head _ | refine List.Mem.tail _ ?_)) 2 rfl
  have d3 : w2.cell? ⟨g2, 3, none⟩ = some (.string (bs q.b)) := hR.cellAt (g := g2) (by repeat (first | exact List.Mem.head _ | refine List.Mem.tail _ ?_)) 3 rfl
  have HR2 := Lib.hid hR
  go_upto_region 4 with fail
  clear a0 a1 a2 a3 d0 d1 d2 d3 q1 q2 q3 hR
  go_loopg [5] q.hs.length (fun gg s5 wr => ∃ (i : Nat), i ≤ q.hs.length ∧ gg = q.hs.length - i ∧ s5 = .int .i64 (i : Nat) ∧ Aside (Rws w.heap.size w wr [(g2, rqC q ad2 c2, 24), (g1, rqC q ad1 c1, 24)]))
  case atStart => exact ⟨0, Nat.zero_le _, rfl, rfl, HR2.out⟩
  case round =>
    obtain ⟨i, hil, rfl, rfl, HRR⟩ := hrel
    have hR := HRR.out
    have a2 : wr.cell? ⟨g1, 2, none⟩ = some (.slice ad1 q.hs.length c1) := hR.cellAt (g := g1) (by repeat (first | exact List.Mem.head _ | refine List.Mem.tail _ ?_)) 2 rfl
    have d2 : wr.cell? ⟨g2, 2, none⟩ = some (.slice ad2 q.hs.length c2) := hR.cellAt (g := g2) (by repeat (first | exact List.Mem.head _ | refine List.Mem.tail _ ?_)) 2 rfl
    by_cases hlt : i < q.hs.length
    · have hltz : (i : Int) < (q.hs.length : Int) := by omega
      obtain ⟨h, hh⟩ : ∃ h, q.hs[i]? = some h := ⟨q.hs[i], List.getElem?_eq_getElem hlt⟩
      obtain rfl : ad1 = some ⟨b1, f1, none⟩ := by rcases had1 with h | ⟨_, h⟩; exact h; omega
      obtain rfl : ad2 = some ⟨b2, f2, none⟩ := by rcases had2 with h | ⟨_, h⟩; exact h; omega
      obtain ⟨e0, e1⟩ := hd_cells (HROW1.out) hh
      obtain ⟨k0, k1⟩ := hd_cells (HROW2.out) hh
      have x0 := (hR.below.cell (p := ⟨b1, f1 + i * 2, none⟩) (World.block_lt_of_cell? w _ e0)).trans e0
      have x1 := (hR.below.cell (p := ⟨b1, f1 + i * 2 + 1, none⟩) (World.block_lt_of_cell? w _ e1)).trans e1
      have y0 := (hR.below.cell (p := ⟨b2, f2 + i * 2, none⟩) (World.block_lt_of_cell? w _ k0)).trans k0
      have y1 := (hR.below.cell (p := ⟨b2, f2 + i * 2 + 1, none⟩) (World.block_lt_of_cell? w _ k1)).trans k1
      have q1 := HQ0.out h.1
      have q2 := HQ0.out h.2
      clear e0 e1 k0 k1 hh
      go_upto_region 6 with fail
      go_quiet (fail)
      have hR := hR.call (below_drawn (Below.refl _ _) nq)
      go_wp2_with fail
      go_roundg (q.hs.length - (i + 1))
      case measure => omega
      case rel => exact ⟨i + 1, by omega, rfl, by go_num, hR⟩
    · have hltz : ¬ (i : Int) < (q.hs.length : Int) := by omega
      go_wp2_with fail
      go_ret
      exact ⟨rfl, hR.below⟩
end Go.Proofs.YtipjkjcmceeaeaaGreatDoor
