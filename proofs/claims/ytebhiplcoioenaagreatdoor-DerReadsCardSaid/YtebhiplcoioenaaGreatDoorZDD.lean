/- ZCur ZCur2, in one text. -/
import Derived.Test.YtebhiplcoioenaaGreatDoorZDN
/- text.Cursor: the walks. A cursor is a block that turns; what stands in the other blocks stays. -/
namespace Go.Proofs.YtebhiplcoioenaaGreatDoor
open Go.RowKit

@[reducible] def curC (s : Bs) (p : Nat) : Array Value := #[.string (bs s), .int .i64 (p : Nat)]
/-- All blocks but c are as they were. -/
structure Bes (c : Nat) (w w' : World) : Prop where
  base : Below 0 w w'
  same : ∀ k, k < w.heap.size → k ≠ c → w'.heap[k]? = w.heap[k]?
def Cur (w : World) (c : Nat) (s : Bs) (p : Nat) : Prop := w.heap[c]? = some (.cells (curC s p) 81 (0, 0)) ∧ p ≤ s.length ∧ s.length ≤ SB
section
variable {c : Nat} {w w1 w2 : World} {s : Bs} {p : Nat}
theorem Bes.trans (h : Bes c w w1) (h2 : Bes c w1 w2) : Bes c w w2 := ⟨h.base.trans h2.base, fun k hk hne => (h2.same k (Nat.lt_of_lt_of_le hk h.base.size) hne).trans (h.same k hk hne)⟩
theorem Bes.refl (c : Nat) (w : World) : Bes c w w := ⟨Below.refl _ _, fun _ _ _ => rfl⟩
theorem Bes.ofB (h : Below w.heap.size w w1) : Bes c w w1 := ⟨h.mono (Nat.zero_le _), fun k hk _ => h.block k hk⟩
theorem Bes.size (h : Bes c w w1) : w.heap.size ≤ w1.heap.size := h.base.size
theorem Cur.lt (h : Cur w c s p) : c < w.heap.size := (Array.getElem?_eq_some_iff.1 h.1).1
theorem Cur.below (h : Cur w c s p) (hb : Below w.heap.size w w1) : Cur w1 c s p := ⟨(hb.block c h.lt).trans h.1, h.2⟩
theorem Cur.c0 (h : Cur w c s p) : w.cell? ⟨c, 0, none⟩ = some (.string (bs s)) := by rw [cell_of_row w c 0 _ _ _ h.1]; rfl
theorem Cur.c1 (h : Cur w c s p) : w.cell? ⟨c, 1, none⟩ = some (.int .i64 (p : Nat)) := by rw [cell_of_row w c 1 _ _ _ h.1]; rfl
theorem Cur.thaw (h : Cur w c s p) (j : Nat) : w.frozen? ⟨c, j, none⟩ = false := by
  have hR : Rws 0 w w [(c, curC s p, 81)] := (Rws.start w).sub (List.Sublist.refl _) |> fun _ => Rws.add ⟨Below.refl _ _, Nat.zero_le _, fun _ h => absurd h List.not_mem_nil, List.Pairwise.nil⟩ (Nat.zero_le _) h.1 (fun _ h => absurd h List.not_mem_nil)
  exact hR.thaw (List.Mem.head _) j
theorem Cur.turn (h : Cur w c s p) {q : Nat} (hq : q ≤ s.length) : Cur (w.setCell ⟨c, 1, none⟩ (.int .i64 (q : Nat))) c s q ∧ Bes c w (w.setCell ⟨c, 1, none⟩ (.int .i64 (q : Nat))) := by
  have hR : Rws 0 w w [(c, curC s p, 81)] := Rws.add ⟨Below.refl _ _, Nat.zero_le _, fun _ h => absurd h List.not_mem_nil, List.Pairwise.nil⟩ (Nat.zero_le _) h.1 (fun _ h => absurd h List.not_mem_nil)
  have h2 := hR.setc 1 (.int .i64 (q : Nat))
  refine ⟨⟨(h2.row _ (List.Mem.head _)).2, hq, h.2.2⟩, ⟨h2.below, fun k _ hne => heap_setCell_other w ⟨c, 1, none⟩ k _ (fun e => hne e)⟩⟩
end
set_option maxRecDepth 100000 in
set_option maxHeartbeats 4000000 in
theorem Open_any (s : Bs) (w : World) (hs : s.length ≤ SB) : Calls Tryz.prog 32 #[.string (bs s)] w fun e w' => ∃ c, e = .returned (.pointer (some ⟨c, 0, none⟩)) ∧ c = w.heap.size ∧ Cur w' c s 0 ∧ Below w.heap.size w w' := by
  have hR := Rws.start w
  go_enter Tryz.func32, Tryz.ntmps32
  go_wp2
  go_ret
  exact ⟨w.heap.size, rfl, rfl, ⟨heap_alloc_new _ _, Nat.zero_le _, hs⟩, b_alloc _ _⟩
set_option maxRecDepth 100000 in
set_option maxHeartbeats 4000000 in
theorem At_any (s : Bs) (p c : Nat) (w : World) (h : Cur w c s p) : Calls Tryz.prog 68 #[.pointer (some ⟨c, 0, none⟩)] w fun e w' => e = .returned (.int .i64 (p : Nat)) ∧ w' = w := by
  have c1 := h.c1
  clear h
  go_enter Tryz.func68, Tryz.ntmps68
  go_wp2
  go_ret
  exact ⟨rfl, rfl⟩
set_option maxRecDepth 100000 in
set_option maxHeartbeats 4000000 in
theorem Left_any (s : Bs) (p c : Nat) (w : World) (h : Cur w c s p) : Calls Tryz.prog 35 #[.pointer (some ⟨c, 0, none⟩)] w fun e w' => e = .returned (.int .i64 ((s.length - p : Nat) : Nat)) ∧ ∃ k, w' = w.drewN k := by
  have c0 := h.c0
  have c1 := h.c1
  have zs := bs_size s
  have hSB := SB_eq
  have hp := h.2.1
  have hs := h.2.2
  have hw : ∀ _ : True, IntKind.i64.wrap ((s.length : Int) - (p : Int)) = ((s.length - p : Nat) : Int) := fun _ => by rw [IntKind.wrap_i64]; omega
  clear h
  go_enter Tryz.func35, Tryz.ntmps35
  go_wp2
  go_quiet (fail)
  go_wp2
  go_ret
  exact ⟨rfl, _, rfl⟩
end Go.Proofs.YtebhiplcoioenaaGreatDoor
/- text.Cursor: Take, Byte, Within, Clone: the walks. -/
namespace Go.Proofs.YtebhiplcoioenaaGreatDoor
open Go.RowKit

set_option maxRecDepth 100000 in
set_option maxHeartbeats 4000000 in
theorem Take_short (s : Bs) (p c n : Nat) (w : World) (h : Cur w c s p) (hn : s.length - p < n) : Calls Tryz.prog 65 #[.pointer (some ⟨c, 0, none⟩), .int .i64 n] w fun e w' => e = .returned (.tuple #[.string (bs []), .int .i64 15]) ∧ Below w.heap.size w w' := by
  have HL : Hid (Calls Tryz.prog 35 #[.pointer (some ⟨c, 0, none⟩)] w fun e w' => e = .returned (.int .i64 ((s.length - p : Nat) : Nat)) ∧ ∃ k, w' = w.drewN k) := Lib.hid (Left_any s p c w h)
  generalize s.length - p = m at *
  have hz : (m : Int) < (n : Int) := by omega
  clear h hn
  go_enter Tryz.func65, Tryz.ntmps65
  go_wp2_with (go_at_call 35; refine HL.out.mono ?_; rintro e w2 ⟨rfl, k, rfl⟩)
  go_ret2
  exact ⟨rfl, below_drewN w k⟩
set_option maxRecDepth 100000 in
set_option maxHeartbeats 4000000 in
theorem Take_ok (s : Bs) (p c n : Nat) (w : World) (h : Cur w c s p) (hn : n ≤ s.length - p) : Calls Tryz.prog 65 #[.pointer (some ⟨c, 0, none⟩), .int .i64 n] w fun e w' => e = .returned (.tuple #[.string (bs ((s.drop p).take n)), .int .i64 0]) ∧ Cur w' c s (p + n) ∧ Bes c w w' := by
  have hSB := SB_eq
  have hp := h.2.1
  have hs := h.2.2
  have HL : Hid (Calls Tryz.prog 35 #[.pointer (some ⟨c, 0, none⟩)] w fun e w' => e = .returned (.int .i64 ((s.length - p : Nat) : Nat)) ∧ ∃ k, w' = w.drewN k) := Lib.hid (Left_any s p c w h)
  have HC := Lib.hid h
  obtain ⟨m, hm⟩ : ∃ m, m = s.length - p := ⟨_, rfl⟩
  rw [← hm] at HL
  have hz : ¬ (m : Int) < (n : Int) := by omega
  clear h
  go_enter Tryz.func65, Tryz.ntmps65
  go_upto_region 5 with (go_at_call 35; refine HL.out.mono ?_; rintro e w2 ⟨rfl, k, rfl⟩)
  have hC2 : Cur (w.drewN k) c s p := HC.out.below (below_drewN w k)
  have hB2 := Lib.hid (Bes.ofB (c := c) (below_drewN w k))
  generalize w.drewN k = u at *
  have c1 := hC2.c1
  have th := hC2.thaw 1
  obtain ⟨q, hq⟩ : ∃ q, q = p + n := ⟨_, rfl⟩
  have hcast : (p : Int) + (n : Int) = (q : Int) := by omega
  have HT0 := hC2.turn (q := q) (by omega)
  rw [← hcast] at HT0
  have HT := Lib.hid HT0
  have HQ := Lib.hid hq
  clear hC2 hcast HT0 hq
  go_upto_region 6 with fail
  have hC4 := HT.out.1
  have hB4 := Lib.hid (hB2.out.trans HT.out.2)
  generalize u.setCell ⟨c, 1, none⟩ (.int .i64 ((p : Int) + (n : Int))) = u2 at *
  have hq := HQ.out
  have c0 := hC4.c0
  have c1 := hC4.c1
  have HC4 := Lib.hid hC4
  have zs := bs_size s
  have e1 : (bs s).extract p q = bs ((s.drop p).take n) := by rw [bs_cut, List.drop_take, hq, Nat.add_sub_cancel_left]
  have hw : ∀ _ : True, IntKind.i64.wrap ((q : Int) - (n : Int)) = (p : Int) := fun _ => by rw [IntKind.wrap_i64]; omega
  have hq1 : p ≤ q := by omega
  have hq2 : q ≤ s.length := by omega
  clear hC4 HT th hq hm hn hz
  go_quiet (fail)
  go_wp2
  go_ret2
  exact ⟨rfl, by rw [← HQ.out]; exact HC4.out.below (below_drewN _ _), hB4.out.trans (Bes.ofB (below_drewN _ _))⟩
set_option maxRecDepth 100000 in
set_option maxHeartbeats 4000000 in
theorem Byte_short (s : Bs) (p c : Nat) (w : World) (h : Cur w c s p) (hn : s.length ≤ p) : Calls Tryz.prog 61 #[.pointer (some ⟨c, 0, none⟩)] w fun e w' => e = .returned (.tuple #[.int .u8 0, .int .i64 15]) ∧ Below w.heap.size w w' := by
  have HT : Hid (Calls Tryz.prog 65 #[.pointer (some ⟨c, 0, none⟩), .int .i64 1] w fun e w' => e = .returned (.tuple #[.string (bs []), .int .i64 15]) ∧ Below w.heap.size w w') := Lib.hid (Take_short s p c 1 w h (by omega))
  clear h hn
  go_enter Tryz.func61, Tryz.ntmps61
  go_wp2_with (go_at_call 65; refine HT.out.mono ?_; rintro e w2 ⟨rfl, hb⟩)
  go_ret2
  exact ⟨rfl, hb⟩
set_option maxRecDepth 100000 in
set_option maxHeartbeats 4000000 in
theorem Byte_ok (s r : Bs) (x : UInt8) (p c : Nat) (w : World) (h : Cur w c s p) (hx : s.drop p = x :: r) : Calls Tryz.prog 61 #[.pointer (some ⟨c, 0, none⟩)] w fun e w' => e = .returned (.tuple #[.int .u8 (x.toNat : Nat), .int .i64 0]) ∧ Cur w' c s (p + 1) ∧ Bes c w w' := by
  have HT : Hid (Calls Tryz.prog 65 #[.pointer (some ⟨c, 0, none⟩), .int .i64 1] w fun e w' => e = .returned (.tuple #[.string (bs [x]), .int .i64 0]) ∧ Cur w' c s (p + 1) ∧ Bes c w w') := Lib.hid (by
    have h1 : 1 ≤ s.length - p := by rw [← List.length_drop, hx]; simp
    have := Take_ok s p c 1 w h h1
    rw [hx] at this
    exact this)
  have hg := bs_get [x] 0 x rfl
  have zs : (bs [x]).size = 1 := bs_size [x]
  clear h hx
  generalize bs [x] = X at *
  go_enter Tryz.func61, Tryz.ntmps61
  go_wp2_with (go_at_call 65; refine HT.out.mono ?_; rintro e w2 ⟨rfl, hc, hb⟩)
  go_ret2
  exact ⟨rfl, hc, hb⟩
set_option maxRecDepth 100000 in
set_option maxHeartbeats 4000000 in
theorem Within_short (s : Bs) (p c n : Nat) (w : World) (h : Cur w c s p) (hn : s.length - p < n) : Calls Tryz.prog 64 #[.pointer (some ⟨c, 0, none⟩), .int .i64 n] w fun e w' => e = .returned (.tuple #[.pointer none, .int .i64 15]) ∧ Below w.heap.size w w' := by
  have HT := Lib.hid (Take_short s p c n w h hn)
  clear h hn
  go_enter Tryz.func64, Tryz.ntmps64
  go_wp2_with (go_at_call 65; refine HT.out.mono ?_; rintro e w2 ⟨rfl, hb⟩)
  go_ret2
  exact ⟨rfl, hb⟩
set_option maxRecDepth 100000 in
set_option maxHeartbeats 4000000 in
theorem Within_ok (s : Bs) (p c n : Nat) (w : World) (h : Cur w c s p) (hn : n ≤ s.length - p) : Calls Tryz.prog 64 #[.pointer (some ⟨c, 0, none⟩), .int .i64 n] w fun e w' => ∃ d, e = .returned (.tuple #[.pointer (some ⟨d, 0, none⟩), .int .i64 0]) ∧ w.heap.size ≤ d ∧ Cur w' d ((s.drop p).take n) 0 ∧ Cur w' c s (p + n) ∧ Bes c w w' := by
  have HT := Lib.hid (Take_ok s p c n w h hn)
  have HO : Hid (∀ u, Calls Tryz.prog 32 #[.string (bs ((s.drop p).take n))] u fun e w' => ∃ c, e = .returned (.pointer (some ⟨c, 0, none⟩)) ∧ c = u.heap.size ∧ Cur w' c ((s.drop p).take n) 0 ∧ Below u.heap.size u w') := Lib.hid fun u => Open_any _ u (by have := h.2.2; rw [List.length_take, List.length_drop]; omega)
  clear h hn
  go_enter Tryz.func64, Tryz.ntmps64
  go_wp2_with (first
    | (go_at_call 65; refine HT.out.mono ?_; rintro e w2 ⟨rfl, hc, hb⟩)
    | (go_at_call 32; refine (HO.out _).mono ?_; rintro e w3 ⟨d, rfl, hd, hC, hb3⟩))
  go_ret2
  exact ⟨_, rfl, hb.size, by rw [← hd]; exact hC, hc.below hb3, hb.trans (Bes.ofB hb3)⟩
set_option maxRecDepth 100000 in
set_option maxHeartbeats 4000000 in
theorem Clone_any (s : Bs) (p c : Nat) (w : World) (h : Cur w c s p) : Calls Tryz.prog 67 #[.pointer (some ⟨c, 0, none⟩)] w fun e w' => ∃ d, e = .returned (.pointer (some ⟨d, 0, none⟩)) ∧ w.heap.size ≤ d ∧ Cur w' d s p ∧ Below w.heap.size w w' := by
  have c0 := h.c0
  have c1 := h.c1
  have HL := Lib.hid h.2
  have hlt := h.lt
  clear h
  go_enter Tryz.func67, Tryz.ntmps67
  go_wp2
  go_ret
  exact ⟨_, rfl, Nat.le_refl _, ⟨heap_alloc_new _ _, HL.out⟩, b_alloc _ _⟩
end Go.Proofs.YtebhiplcoioenaaGreatDoor
