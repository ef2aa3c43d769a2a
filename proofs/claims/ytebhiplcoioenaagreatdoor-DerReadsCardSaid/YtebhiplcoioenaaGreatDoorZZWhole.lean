/- der.whole, der.rising: the walks. -/
import Derived.Test.YtebhiplcoioenaaGreatDoorZZGd
import Derived.Test.YtebhiplcoioenaaGreatDoorZDG
import Derived.Deep.QuietTactic
import Derived.BigQuiet
namespace Go.Proofs.YtebhiplcoioenaaGreatDoor
open Go.RowKit

theorem bits6_or (n v : Nat) (hn : n ≤ 3) (hv : v < 64) : bits BinOp.or IntKind.i64 ((n : Int) * 64) (v : Int) = ((64 * n + v : Nat) : Int) := by
  have key : ∀ (n : Fin 4) (v : Fin 64), bits BinOp.or IntKind.i64 ((n.val : Int) * 64) (v.val : Int) = ((64 * n.val + v.val : Nat) : Int) := by decide +kernel
  exact key ⟨n, by omega⟩ ⟨v, hv⟩
theorem or_32 (n : Nat) (h : n < 256) (h2 : n / 32 % 2 = 0) : bits BinOp.or IntKind.u8 (n : Int) 32 = ((n + 32 : Nat) : Int) := by
  have key : ∀ (n : Fin 256), n.val / 32 % 2 = 0 → bits BinOp.or IntKind.u8 (n.val : Int) 32 = ((n.val + 32 : Nat) : Int) := by decide +kernel
  exact key ⟨n, h⟩ h2
theorem conv_l (l : Bs) (cs : Array Value) (hcs : cs = (ByC l).toArray) (u : World) (hm : l.length ≤ 8) : (convert 68 9 (.slice (some ⟨u.heap.size, 0, none⟩) l.length l.length)).run Tryz.prog (u.alloc (.cells cs 5)) = .ok (.string (bs l)) (u.alloc (.cells cs 5)) := by
  have hlen : cs.size = l.length := by rw [hcs]; simp [ByC]
  have ho : l.length ≤ MX → OwnB u.heap.size (u.alloc (.cells cs 5)) (.slice (some ⟨u.heap.size, 0, none⟩) l.length l.length) l := fun hm =>
    ⟨by simp [ByC], Or.inr ⟨u.heap.size, l.length, cs, rfl, Nat.le_refl _, heap_alloc_new _ _, Nat.le_refl _, hm, by rw [hlen]; simp, by rw [hcs, Nat.mul_one]; simp only [ByC]; exact List.take_of_length_le (by simp)⟩⟩
  exact own_text (ho (by have := MX_eq; omega))
set_option maxRecDepth 100000 in
set_option maxHeartbeats 4000000 in
theorem whole_t0 (c t : Nat) (b : ByteArray) (ad : Option Addr) (n cp : Nat) (s : Bs) (w : World) (hc : c ≤ 3) (ht : t ≤ 30) (hs : s.length < 128) : Calls Tryz.prog 74 #[.agg #[.int .i64 c, .int .i64 t, .bool true, .string b, .slice ad n cp], .string (bs s)] w fun e w' => e = .returned (.string (bs (wholeS c t true s))) ∧ Below w.heap.size w w' := by
  have hR := Rws.start w
  have zs := bs_size s
  have h1 := bits6_or c t hc (by omega)
  obtain ⟨X, hX⟩ : ∃ X, X = 64 * c + t := ⟨_, rfl⟩
  rw [← hX] at h1
  have hXl : X < 256 := by omega
  have h2 := or_32 X hXl (by omega)
  have hf : ((fstS c t true).toNat : Int) = ((X : Int) + 32) := by
    unfold fstS
    rw [Int.toNat_natCast, Int.toNat_natCast, u8_lt _ (by simp; omega)]
    simp
    omega
  have hcv0 : ∀ u : World, (convert 68 9 (.slice (some ⟨u.heap.size, 0, none⟩) 2 2)).run Tryz.prog (u.alloc (.cells #[.int .u8 ((X : Int) + 32), .int .u8 (s.length : Int)] 5)) = .ok (.string (bs [fstS c t true, UInt8.ofNat s.length])) (u.alloc (.cells #[.int .u8 ((X : Int) + 32), .int .u8 (s.length : Int)] 5)) := fun u => conv_l [fstS c t true, UInt8.ofNat s.length] _ (by
    unfold ByC
    simp only [List.map_cons, List.map_nil, hf]
    rw [u8_lt s.length (by omega)]
    try rfl) u (by simp)
  have HS : Hid (wholeS c t true s = [fstS c t true, UInt8.ofNat s.length] ++ s) := Lib.hid (by
    unfold wholeS lenS
    rw [if_pos (by omega)]
    rfl)
  obtain ⟨H, hH⟩ : ∃ H, H = [fstS c t true, UInt8.ofNat s.length] := ⟨_, rfl⟩
  rw [← hH] at hcv0 HS
  have zh : (bs H).size = 2 := by rw [bs_size, hH]; rfl
  have hsb : s.length ≤ 281474976710656 := by omega
  have hcv := hcv0
  have q0 : (s.length : Int) < 128 := by omega
  clear hX hs hf hH hcv0
  go_enter Tryz.func74, Tryz.ntmps74
  go_wp2_with (first
    | (refine wpList_box_rws rfl _ _ (by rfl) (by exact hR) #[.int .i64 c, .int .i64 t, .bool true, .string b, .slice ad n cp] rfl ?_; intro gb w1 hR; have f0 := hR.cellAt (g := gb) (List.Mem.head _) 0 rfl; have f1 := hR.cellAt (g := gb) (List.Mem.head _) 1 rfl; have f2 := hR.cellAt (g := gb) (List.Mem.head _) 2 rfl; have HB := Lib.hid hR.below; clear hR))
  go_ret
  refine ⟨?_, HB.out.trans ((b_alloc _ _).mono HB.out.size)⟩
  rw [HS.out, ← bs_app2]
  rfl
set_option maxRecDepth 100000 in
set_option maxHeartbeats 4000000 in
theorem whole_t1 (c t : Nat) (b : ByteArray) (ad : Option Addr) (n cp : Nat) (s : Bs) (w : World) (hc : c ≤ 3) (ht : t ≤ 30) (hs : 128 ≤ s.length) (hs2 : s.length < 256) : Calls Tryz.prog 74 #[.agg #[.int .i64 c, .int .i64 t, .bool true, .string b, .slice ad n cp], .string (bs s)] w fun e w' => e = .returned (.string (bs (wholeS c t true s))) ∧ Below w.heap.size w w' := by
  have hR := Rws.start w
  have zs := bs_size s
  have h1 := bits6_or c t hc (by omega)
  obtain ⟨X, hX⟩ : ∃ X, X = 64 * c + t := ⟨_, rfl⟩
  rw [← hX] at h1
  have hXl : X < 256 := by omega
  have h2 := or_32 X hXl (by omega)
  have hf : ((fstS c t true).toNat : Int) = ((X : Int) + 32) := by
    unfold fstS
    rw [Int.toNat_natCast, Int.toNat_natCast, u8_lt _ (by simp; omega)]
    simp
    omega
  have hcv0 : ∀ u : World, (convert 68 9 (.slice (some ⟨u.heap.size, 0, none⟩) 3 3)).run Tryz.prog (u.alloc (.cells #[.int .u8 ((X : Int) + 32), .int .u8 129, .int .u8 (s.length : Int)] 5)) = .ok (.string (bs [fstS c t true, 129, UInt8.ofNat s.length])) (u.alloc (.cells #[.int .u8 ((X : Int) + 32), .int .u8 129, .int .u8 (s.length : Int)] 5)) := fun u => conv_l [fstS c t true, 129, UInt8.ofNat s.length] _ (by
    unfold ByC
    simp only [List.map_cons, List.map_nil, hf]
    rw [u8_lt s.length (by omega)]
    try rfl) u (by simp)
  have HS : Hid (wholeS c t true s = [fstS c t true, 129, UInt8.ofNat s.length] ++ s) := Lib.hid (by
    unfold wholeS lenS
    rw [if_neg (by omega), if_pos (by omega)]
    rfl)
  obtain ⟨H, hH⟩ : ∃ H, H = [fstS c t true, 129, UInt8.ofNat s.length] := ⟨_, rfl⟩
  rw [← hH] at hcv0 HS
  have zh : (bs H).size = 3 := by rw [bs_size, hH]; rfl
  have hsb : s.length ≤ 281474976710656 := by omega
  have hcv := hcv0
  have q0 : ¬ (s.length : Int) < 128 := by omega
  have q1 : (s.length : Int) < 256 := by omega
  clear hX hs hf hH hcv0 hs2
  go_enter Tryz.func74, Tryz.ntmps74
  go_wp2_with (first
    | (refine wpList_box_rws rfl _ _ (by rfl) (by exact hR) #[.int .i64 c, .int .i64 t, .bool true, .string b, .slice ad n cp] rfl ?_; intro gb w1 hR; have f0 := hR.cellAt (g := gb) (List.Mem.head _) 0 rfl; have f1 := hR.cellAt (g := gb) (List.Mem.head _) 1 rfl; have f2 := hR.cellAt (g := gb) (List.Mem.head _) 2 rfl; have HB := Lib.hid hR.below; clear hR))
  go_ret
  refine ⟨?_, HB.out.trans ((b_alloc _ _).mono HB.out.size)⟩
  rw [HS.out, ← bs_app2]
  rfl
set_option maxRecDepth 100000 in
set_option maxHeartbeats 4000000 in
theorem whole_t2 (c t : Nat) (b : ByteArray) (ad : Option Addr) (n cp : Nat) (s : Bs) (w : World) (hc : c ≤ 3) (ht : t ≤ 30) (hs : 256 ≤ s.length) (hs2 : s.length ≤ 281474976710656) : Calls Tryz.prog 74 #[.agg #[.int .i64 c, .int .i64 t, .bool true, .string b, .slice ad n cp], .string (bs s)] w fun e w' => e = .returned (.string (bs (wholeS c t true s))) ∧ Below w.heap.size w w' := by
  have hR := Rws.start w
  have zs := bs_size s
  have h1 := bits6_or c t hc (by omega)
  obtain ⟨X, hX⟩ : ∃ X, X = 64 * c + t := ⟨_, rfl⟩
  rw [← hX] at h1
  have hXl : X < 256 := by omega
  have h2 := or_32 X hXl (by omega)
  have hf : ((fstS c t true).toNat : Int) = ((X : Int) + 32) := by
    unfold fstS
    rw [Int.toNat_natCast, Int.toNat_natCast, u8_lt _ (by simp; omega)]
    simp
    omega
  have hcv0 : ∀ u : World, (convert 68 9 (.slice (some ⟨u.heap.size, 0, none⟩) 4 4)).run Tryz.prog (u.alloc (.cells #[.int .u8 ((X : Int) + 32), .int .u8 130, .int .u8 ((s.length : Int) / 256 % 256), .int .u8 ((s.length : Int) % 256)] 5)) = .ok (.string (bs [fstS c t true, 130, UInt8.ofNat (s.length / 256), UInt8.ofNat s.length])) (u.alloc (.cells #[.int .u8 ((X : Int) + 32), .int .u8 130, .int .u8 ((s.length : Int) / 256 % 256), .int .u8 ((s.length : Int) % 256)] 5)) := fun u => conv_l [fstS c t true, 130, UInt8.ofNat (s.length / 256), UInt8.ofNat s.length] _ (by
    unfold ByC
    simp only [List.map_cons, List.map_nil, hf]
    rw [UInt8.toNat_ofNat', UInt8.toNat_ofNat']
    try rfl) u (by simp)
  have HS : Hid (wholeS c t true s = [fstS c t true, 130, UInt8.ofNat (s.length / 256), UInt8.ofNat s.length] ++ s) := Lib.hid (by
    unfold wholeS lenS
    rw [if_neg (by omega), if_neg (by omega)]
    rfl)
  obtain ⟨H, hH⟩ : ∃ H, H = [fstS c t true, 130, UInt8.ofNat (s.length / 256), UInt8.ofNat s.length] := ⟨_, rfl⟩
  rw [← hH] at hcv0 HS
  have zh : (bs H).size = 4 := by rw [bs_size, hH]; rfl
  have hsb : s.length ≤ 281474976710656 := by omega
  have hcv := hcv0
  have q0 : ¬ (s.length : Int) < 128 := by omega
  have q1 : ¬ (s.length : Int) < 256 := by omega
  clear hX hs hf hH hcv0 hs2
  go_enter Tryz.func74, Tryz.ntmps74
  go_wp2_with (first
    | (refine wpList_box_rws rfl _ _ (by rfl) (by exact hR) #[.int .i64 c, .int .i64 t, .bool true, .string b, .slice ad n cp] rfl ?_; intro gb w1 hR; have f0 := hR.cellAt (g := gb) (List.Mem.head _) 0 rfl; have f1 := hR.cellAt (g := gb) (List.Mem.head _) 1 rfl; have f2 := hR.cellAt (g := gb) (List.Mem.head _) 2 rfl; have HB := Lib.hid hR.below; clear hR))
  go_ret
  refine ⟨?_, HB.out.trans ((b_alloc _ _).mono HB.out.size)⟩
  rw [HS.out, ← bs_app2]
  rfl
set_option maxRecDepth 100000 in
set_option maxHeartbeats 4000000 in
theorem whole_f0 (c t : Nat) (b : ByteArray) (ad : Option Addr) (n cp : Nat) (s : Bs) (w : World) (hc : c ≤ 3) (ht : t ≤ 30) (hs : s.length < 128) : Calls Tryz.prog 74 #[.agg #[.int .i64 c, .int .i64 t, .bool false, .string b, .slice ad n cp], .string (bs s)] w fun e w' => e = .returned (.string (bs (wholeS c t false s))) ∧ Below w.heap.size w w' := by
  have hR := Rws.start w
  have zs := bs_size s
  have h1 := bits6_or c t hc (by omega)
  obtain ⟨X, hX⟩ : ∃ X, X = 64 * c + t := ⟨_, rfl⟩
  rw [← hX] at h1
  have hXl : X < 256 := by omega
  have h2 := or_32 X hXl (by omega)
  have hf : ((fstS c t false).toNat : Int) = (X : Int) := by
    unfold fstS
    rw [Int.toNat_natCast, Int.toNat_natCast, u8_lt _ (by simp; omega)]
    simp
    omega
  have hcv0 : ∀ u : World, (convert 68 9 (.slice (some ⟨u.heap.size, 0, none⟩) 2 2)).run Tryz.prog (u.alloc (.cells #[.int .u8 (X : Int), .int .u8 (s.length : Int)] 5)) = .ok (.string (bs [fstS c t false, UInt8.ofNat s.length])) (u.alloc (.cells #[.int .u8 (X : Int), .int .u8 (s.length : Int)] 5)) := fun u => conv_l [fstS c t false, UInt8.ofNat s.length] _ (by
    unfold ByC
    simp only [List.map_cons, List.map_nil, hf]
    rw [u8_lt s.length (by omega)]
    try rfl) u (by simp)
  have HS : Hid (wholeS c t false s = [fstS c t false, UInt8.ofNat s.length] ++ s) := Lib.hid (by
    unfold wholeS lenS
    rw [if_pos (by omega)]
    rfl)
  obtain ⟨H, hH⟩ : ∃ H, H = [fstS c t false, UInt8.ofNat s.length] := ⟨_, rfl⟩
  rw [← hH] at hcv0 HS
  have zh : (bs H).size = 2 := by rw [bs_size, hH]; rfl
  have hsb : s.length ≤ 281474976710656 := by omega
  have hcv := hcv0
  have q0 : (s.length : Int) < 128 := by omega
  clear hX hs hf hH hcv0
  go_enter Tryz.func74, Tryz.ntmps74
  go_wp2_with (first
    | (refine wpList_box_rws rfl _ _ (by rfl) (by exact hR) #[.int .i64 c, .int .i64 t, .bool false, .string b, .slice ad n cp] rfl ?_; intro gb w1 hR; have f0 := hR.cellAt (g := gb) (List.Mem.head _) 0 rfl; have f1 := hR.cellAt (g := gb) (List.Mem.head _) 1 rfl; have f2 := hR.cellAt (g := gb) (List.Mem.head _) 2 rfl; have HB := Lib.hid hR.below; clear hR))
  go_ret
  refine ⟨?_, HB.out.trans ((b_alloc _ _).mono HB.out.size)⟩
  rw [HS.out, ← bs_app2]
  rfl
set_option maxRecDepth 100000 in
set_option maxHeartbeats 4000000 in
theorem whole_f1 (c t : Nat) (b : ByteArray) (ad : Option Addr) (n cp : Nat) (s : Bs) (w : World) (hc : c ≤ 3) (ht : t ≤ 30) (hs : 128 ≤ s.length) (hs2 : s.length < 256) : Calls Tryz.prog 74 #[.agg #[.int .i64 c, .int .i64 t, .bool false, .string b, .slice ad n cp], .string (bs s)] w fun e w' => e = .returned (.string (bs (wholeS c t false s))) ∧ Below w.heap.size w w' := by
  have hR := Rws.start w
  have zs := bs_size s
  have h1 := bits6_or c t hc (by omega)
  obtain ⟨X, hX⟩ : ∃ X, X = 64 * c + t := ⟨_, rfl⟩
  rw [← hX] at h1
  have hXl : X < 256 := by omega
  have h2 := or_32 X hXl (by omega)
  have hf : ((fstS c t false).toNat : Int) = (X : Int) := by
    unfold fstS
    rw [Int.toNat_natCast, Int.toNat_natCast, u8_lt _ (by simp; omega)]
    simp
    omega
  have hcv0 : ∀ u : World, (convert 68 9 (.slice (some ⟨u.heap.size, 0, none⟩) 3 3)).run Tryz.prog (u.alloc (.cells #[.int .u8 (X : Int), .int .u8 129, .int .u8 (s.length : Int)] 5)) = .ok (.string (bs [fstS c t false, 129, UInt8.ofNat s.length])) (u.alloc (.cells #[.int .u8 (X : Int), .int .u8 129, .int .u8 (s.length : Int)] 5)) := fun u => conv_l [fstS c t false, 129, UInt8.ofNat s.length] _ (by
    unfold ByC
    simp only [List.map_cons, List.map_nil, hf]
    rw [u8_lt s.length (by omega)]
    try rfl) u (by simp)
  have HS : Hid (wholeS c t false s = [fstS c t false, 129, UInt8.ofNat s.length] ++ s) := Lib.hid (by
    unfold wholeS lenS
    rw [if_neg (by omega), if_pos (by omega)]
    rfl)
  obtain ⟨H, hH⟩ : ∃ H, H = [fstS c t false, 129, UInt8.ofNat s.length] := ⟨_, rfl⟩
  rw [← hH] at hcv0 HS
  have zh : (bs H).size = 3 := by rw [bs_size, hH]; rfl
  have hsb : s.length ≤ 281474976710656 := by omega
  have hcv := hcv0
  have q0 : ¬ (s.length : Int) < 128 := by omega
  have q1 : (s.length : Int) < 256 := by omega
  clear hX hs hf hH hcv0 hs2
  go_enter Tryz.func74, Tryz.ntmps74
  go_wp2_with (first
    | (refine wpList_box_rws rfl _ _ (by rfl) (by exact hR) #[.int .i64 c, .int .i64 t, .bool false, .string b, .slice ad n cp] rfl ?_; intro gb w1 hR; have f0 := hR.cellAt (g := gb) (List.Mem.head _) 0 rfl; have f1 := hR.cellAt (g := gb) (List.Mem.head _) 1 rfl; have f2 := hR.cellAt (g := gb) (List.Mem.head _) 2 rfl; have HB := Lib.hid hR.below; clear hR))
  go_ret
  refine ⟨?_, HB.out.trans ((b_alloc _ _).mono HB.out.size)⟩
  rw [HS.out, ← bs_app2]
  rfl
set_option maxRecDepth 100000 in
set_option maxHeartbeats 4000000 in
theorem whole_f2 (c t : Nat) (b : ByteArray) (ad : Option Addr) (n cp : Nat) (s : Bs) (w : World) (hc : c ≤ 3) (ht : t ≤ 30) (hs : 256 ≤ s.length) (hs2 : s.length ≤ 281474976710656) : Calls Tryz.prog 74 #[.agg #[.int .i64 c, .int .i64 t, .bool false, .string b, .slice ad n cp], .string (bs s)] w fun e w' => e = .returned (.string (bs (wholeS c t false s))) ∧ Below w.heap.size w w' := by
  have hR := Rws.start w
  have zs := bs_size s
  have h1 := bits6_or c t hc (by omega)
  obtain ⟨X, hX⟩ : ∃ X, X = 64 * c + t := ⟨_, rfl⟩
  rw [← hX] at h1
  have hXl : X < 256 := by omega
  have h2 := or_32 X hXl (by omega)
  have hf : ((fstS c t false).toNat : Int) = (X : Int) := by
    unfold fstS
    rw [Int.toNat_natCast, Int.toNat_natCast, u8_lt _ (by simp; omega)]
    simp
    omega
  have hcv0 : ∀ u : World, (convert 68 9 (.slice (some ⟨u.heap.size, 0, none⟩) 4 4)).run Tryz.prog (u.alloc (.cells #[.int .u8 (X : Int), .int .u8 130, .int .u8 ((s.length : Int) / 256 % 256), .int .u8 ((s.length : Int) % 256)] 5)) = .ok (.string (bs [fstS c t false, 130, UInt8.ofNat (s.length / 256), UInt8.ofNat s.length])) (u.alloc (.cells #[.int .u8 (X : Int), .int .u8 130, .int .u8 ((s.length : Int) / 256 % 256), .int .u8 ((s.length : Int) % 256)] 5)) := fun u => conv_l [fstS c t false, 130, UInt8.ofNat (s.length / 256), UInt8.ofNat s.length] _ (by
    unfold ByC
    simp only [List.map_cons, List.map_nil, hf]
    rw [UInt8.toNat_ofNat', UInt8.toNat_ofNat']
    try rfl) u (by simp)
  have HS : Hid (wholeS c t false s = [fstS c t false, 130, UInt8.ofNat (s.length / 256), UInt8.ofNat s.length] ++ s) := Lib.hid (by
    unfold wholeS lenS
    rw [if_neg (by omega), if_neg (by omega)]
    rfl)
  obtain ⟨H, hH⟩ : ∃ H, H = [fstS c t false, 130, UInt8.ofNat (s.length / 256), UInt8.ofNat s.length] := ⟨_, rfl⟩
  rw [← hH] at hcv0 HS
  have zh : (bs H).size = 4 := by rw [bs_size, hH]; rfl
  have hsb : s.length ≤ 281474976710656 := by omega
  have hcv := hcv0
  have q0 : ¬ (s.length : Int) < 128 := by omega
  have q1 : ¬ (s.length : Int) < 256 := by omega
  clear hX hs hf hH hcv0 hs2
  go_enter Tryz.func74, Tryz.ntmps74
  go_wp2_with (first
    | (refine wpList_box_rws rfl _ _ (by rfl) (by exact hR) #[.int .i64 c, .int .i64 t, .bool false, .string b, .slice ad n cp] rfl ?_; intro gb w1 hR; have f0 := hR.cellAt (g := gb) (List.Mem.head _) 0 rfl; have f1 := hR.cellAt (g := gb) (List.Mem.head _) 1 rfl; have f2 := hR.cellAt (g := gb) (List.Mem.head _) 2 rfl; have HB := Lib.hid hR.below; clear hR))
  go_ret
  refine ⟨?_, HB.out.trans ((b_alloc _ _).mono HB.out.size)⟩
  rw [HS.out, ← bs_app2]
  rfl
theorem whole_any (v : Dv) (ad : Option Addr) (cp : Nat) (s : Bs) (w : World) (h0 : 0 ≤ v.c) (h1 : v.c ≤ 3) (h2 : 0 ≤ v.t) (h3 : v.t ≤ 30) (hs : s.length ≤ 281474976710656) : Calls Tryz.prog 74 #[dvv v ad cp, .string (bs s)] w fun e w' => e = .returned (.string (bs (wholeS v.c v.t v.k s))) ∧ Below w.heap.size w w' := by
  obtain ⟨c, t, k, b, l⟩ := v
  simp only at h0 h1 h2 h3
  obtain ⟨c, rfl⟩ := Int.eq_ofNat_of_zero_le h0
  obtain ⟨t, rfl⟩ := Int.eq_ofNat_of_zero_le h2
  rcases (by omega : s.length < 128 ∨ (128 ≤ s.length ∧ s.length < 256) ∨ 256 ≤ s.length) with h | ⟨h, h'⟩ | h
  · cases k with
    | true => exact whole_t0 c t (bs b) ad l.len cp s w (by omega) (by omega) h
    | false => exact whole_f0 c t (bs b) ad l.len cp s w (by omega) (by omega) h
  · cases k with
    | true => exact whole_t1 c t (bs b) ad l.len cp s w (by omega) (by omega) h h'
    | false => exact whole_f1 c t (bs b) ad l.len cp s w (by omega) (by omega) h h'
  · cases k with
    | true => exact whole_t2 c t (bs b) ad l.len cp s w (by omega) (by omega) h hs
    | false => exact whole_f2 c t (bs b) ad l.len cp s w (by omega) (by omega) h hs
end Go.Proofs.YtebhiplcoioenaaGreatDoor
