/- ZHead1 ZHead2 ZHead3 ZHead4 ZHead5 ZHead6 ZHead, in one text. -/
import Derived.Test.YtebhiplcoioenaaGreatDoorZDE
/- der.head: the walk. -/
namespace Go.Proofs.YtebhiplcoioenaaGreatDoor
open Go.RowKit

set_option maxRecDepth 100000 in
set_option maxHeartbeats 4000000 in
theorem head_1 (c t : Int) (b : ByteArray) (ad : Option Addr) (n cp deep : Nat) (TH CO : Bool) (k : Bool) (w : World) (hk : ∀ u, Calls Tryz.prog 86 #[.int .i64 t] u fun e w' => e = .returned (.tuple #[.bool TH, .bool CO]) ∧ w' = u) (h1 : c < 0) :
    Calls Tryz.prog 62 #[.agg #[.int .i64 c, .int .i64 t, .bool k, .string b, .slice ad n cp], .int .i64 deep] w fun e w' => e = .returned (wrV 62) ∧ Below w.heap.size w w' := by
  have hR := Rws.start w
  have HK := Lib.hid hk
  clear hk
  go_enter Tryz.func62, Tryz.ntmps62
  go_upto_region 1 with (refine wpList_box_rws rfl _ _ (by rfl) (by exact hR) #[.int .i64 c, .int .i64 t, .bool k, .string b, .slice ad n cp] rfl ?_; intro gb w1 hR; have f0 := hR.cellAt (g := gb) (List.Mem.head _) 0 rfl; have f1 := hR.cellAt (g := gb) (List.Mem.head _) 1 rfl; have f2 := hR.cellAt (g := gb) (List.Mem.head _) 2 rfl; have f3 := hR.cellAt (g := gb) (List.Mem.head _) 3 rfl; have f4 := hR.cellAt (g := gb) (List.Mem.head _) 4 rfl; have HB := Lib.hid hR.below; clear hR)
  go_wp2_with (go_at_call 86; refine (HK.out _).mono ?_; rintro e w2 ⟨rfl, rfl⟩)
  go_ret
  exact ⟨rfl, HB.out⟩
set_option maxRecDepth 100000 in
set_option maxHeartbeats 4000000 in
theorem head_61qf (c t : Int) (b : ByteArray) (ad : Option Addr) (n cp deep : Nat) (TH CO : Bool) (w : World) (hk : ∀ u, Calls Tryz.prog 86 #[.int .i64 t] u fun e w' => e = .returned (.tuple #[.bool TH, .bool CO]) ∧ w' = u) (h1 : ¬ c < 0) (h2 : ¬ 3 < c) (h3 : ¬ t < 0) (h4 : ¬ 30 < t) (h5 : (c == 0) = true) (h6 : TH = true) (h7 : CO = true) :
    Calls Tryz.prog 62 #[.agg #[.int .i64 c, .int .i64 t, .bool false, .string b, .slice ad n cp], .int .i64 deep] w fun e w' => e = .returned (wrV 61) ∧ Below w.heap.size w w' := by
  have hR := Rws.start w
  have HK := Lib.hid hk
  clear hk
  go_enter Tryz.func62, Tryz.ntmps62
  go_upto_region 1 with (refine wpList_box_rws rfl _ _ (by rfl) (by exact hR) #[.int .i64 c, .int .i64 t, .bool false, .string b, .slice ad n cp] rfl ?_; intro gb w1 hR; have f0 := hR.cellAt (g := gb) (List.Mem.head _) 0 rfl; have f1 := hR.cellAt (g := gb) (List.Mem.head _) 1 rfl; have f2 := hR.cellAt (g := gb) (List.Mem.head _) 2 rfl; have f3 := hR.cellAt (g := gb) (List.Mem.head _) 3 rfl; have f4 := hR.cellAt (g := gb) (List.Mem.head _) 4 rfl; have HB := Lib.hid hR.below; clear hR)
  go_wp2_with (go_at_call 86; refine (HK.out _).mono ?_; rintro e w2 ⟨rfl, rfl⟩)
  go_ret
  exact ⟨rfl, HB.out⟩
set_option maxRecDepth 100000 in
set_option maxHeartbeats 4000000 in
theorem head_61bb (c t : Int) (b : ByteArray) (ad : Option Addr) (n cp deep : Nat) (TH CO : Bool) (w : World) (hk : ∀ u, Calls Tryz.prog 86 #[.int .i64 t] u fun e w' => e = .returned (.tuple #[.bool TH, .bool CO]) ∧ w' = u) (h1 : ¬ c < 0) (h2 : ¬ 3 < c) (h3 : ¬ t < 0) (h4 : ¬ 30 < t) (h5 : (c == 0) = false) (h8 : (b.toList == []) = false) :
    Calls Tryz.prog 62 #[.agg #[.int .i64 c, .int .i64 t, .bool true, .string b, .slice ad n cp], .int .i64 deep] w fun e w' => e = .returned (wrV 61) ∧ Below w.heap.size w w' := by
  have hR := Rws.start w
  have HK := Lib.hid hk
  clear hk
  go_enter Tryz.func62, Tryz.ntmps62
  go_upto_region 1 with (refine wpList_box_rws rfl _ _ (by rfl) (by exact hR) #[.int .i64 c, .int .i64 t, .bool true, .string b, .slice ad n cp] rfl ?_; intro gb w1 hR; have f0 := hR.cellAt (g := gb) (List.Mem.head _) 0 rfl; have f1 := hR.cellAt (g := gb) (List.Mem.head _) 1 rfl; have f2 := hR.cellAt (g := gb) (List.Mem.head _) 2 rfl; have f3 := hR.cellAt (g := gb) (List.Mem.head _) 3 rfl; have f4 := hR.cellAt (g := gb) (List.Mem.head _) 4 rfl; have HB := Lib.hid hR.below; clear hR)
  go_wp2_with (go_at_call 86; refine (HK.out _).mono ?_; rintro e w2 ⟨rfl, rfl⟩)
  go_ret
  exact ⟨rfl, HB.out⟩
end Go.Proofs.YtebhiplcoioenaaGreatDoor
/- der.head: the walk. -/
namespace Go.Proofs.YtebhiplcoioenaaGreatDoor
open Go.RowKit

set_option maxRecDepth 100000 in
set_option maxHeartbeats 4000000 in
theorem head_2 (c t : Int) (b : ByteArray) (ad : Option Addr) (n cp deep : Nat) (TH CO : Bool) (k : Bool) (w : World) (hk : ∀ u, Calls Tryz.prog 86 #[.int .i64 t] u fun e w' => e = .returned (.tuple #[.bool TH, .bool CO]) ∧ w' = u) (h1 : ¬ c < 0) (h2 : 3 < c) :
    Calls Tryz.prog 62 #[.agg #[.int .i64 c, .int .i64 t, .bool k, .string b, .slice ad n cp], .int .i64 deep] w fun e w' => e = .returned (wrV 62) ∧ Below w.heap.size w w' := by
  have hR := Rws.start w
  have HK := Lib.hid hk
  clear hk
  go_enter Tryz.func62, Tryz.ntmps62
  go_upto_region 1 with (refine wpList_box_rws rfl _ _ (by rfl) (by exact hR) #[.int .i64 c, .int .i64 t, .bool k, .string b, .slice ad n cp] rfl ?_; intro gb w1 hR; have f0 := hR.cellAt (g := gb) (List.Mem.head _) 0 rfl; have f1 := hR.cellAt (g := gb) (List.Mem.head _) 1 rfl; have f2 := hR.cellAt (g := gb) (List.Mem.head _) 2 rfl; have f3 := hR.cellAt (g := gb) (List.Mem.head _) 3 rfl; have f4 := hR.cellAt (g := gb) (List.Mem.head _) 4 rfl; have HB := Lib.hid hR.below; clear hR)
  go_wp2_with (go_at_call 86; refine (HK.out _).mono ?_; rintro e w2 ⟨rfl, rfl⟩)
  go_ret
  exact ⟨rfl, HB.out⟩
set_option maxRecDepth 100000 in
set_option maxHeartbeats 4000000 in
theorem head_61ba (c t : Int) (b : ByteArray) (ad : Option Addr) (n cp deep : Nat) (TH CO : Bool) (w : World) (hk : ∀ u, Calls Tryz.prog 86 #[.int .i64 t] u fun e w' => e = .returned (.tuple #[.bool TH, .bool CO]) ∧ w' = u) (h1 : ¬ c < 0) (h2 : ¬ 3 < c) (h3 : ¬ t < 0) (h4 : ¬ 30 < t) (h5 : (c == 0) = true) (h6 : TH = true) (h7 : CO = true) (h8 : (b.toList == []) = false) :
    Calls Tryz.prog 62 #[.agg #[.int .i64 c, .int .i64 t, .bool true, .string b, .slice ad n cp], .int .i64 deep] w fun e w' => e = .returned (wrV 61) ∧ Below w.heap.size w w' := by
  have hR := Rws.start w
  have HK := Lib.hid hk
  clear hk
  go_enter Tryz.func62, Tryz.ntmps62
  go_upto_region 1 with (refine wpList_box_rws rfl _ _ (by rfl) (by exact hR) #[.int .i64 c, .int .i64 t, .bool true, .string b, .slice ad n cp] rfl ?_; intro gb w1 hR; have f0 := hR.cellAt (g := gb) (List.Mem.head _) 0 rfl; have f1 := hR.cellAt (g := gb) (List.Mem.head _) 1 rfl; have f2 := hR.cellAt (g := gb) (List.Mem.head _) 2 rfl; have f3 := hR.cellAt (g := gb) (List.Mem.head _) 3 rfl; have f4 := hR.cellAt (g := gb) (List.Mem.head _) 4 rfl; have HB := Lib.hid hR.below; clear hR)
  go_wp2_with (go_at_call 86; refine (HK.out _).mono ?_; rintro e w2 ⟨rfl, rfl⟩)
  go_ret
  exact ⟨rfl, HB.out⟩
set_option maxRecDepth 100000 in
set_option maxHeartbeats 4000000 in
theorem head_61lb (c t : Int) (b : ByteArray) (ad : Option Addr) (n cp deep : Nat) (TH CO : Bool) (w : World) (hk : ∀ u, Calls Tryz.prog 86 #[.int .i64 t] u fun e w' => e = .returned (.tuple #[.bool TH, .bool CO]) ∧ w' = u) (h1 : ¬ c < 0) (h2 : ¬ 3 < c) (h3 : ¬ t < 0) (h4 : ¬ 30 < t) (h5 : (c == 0) = false) (h8 : 0 < n) :
    Calls Tryz.prog 62 #[.agg #[.int .i64 c, .int .i64 t, .bool false, .string b, .slice ad n cp], .int .i64 deep] w fun e w' => e = .returned (wrV 61) ∧ Below w.heap.size w w' := by
  have hR := Rws.start w
  have HK := Lib.hid hk
  clear hk
  go_enter Tryz.func62, Tryz.ntmps62
  go_upto_region 1 with (refine wpList_box_rws rfl _ _ (by rfl) (by exact hR) #[.int .i64 c, .int .i64 t, .bool false, .string b, .slice ad n cp] rfl ?_; intro gb w1 hR; have f0 := hR.cellAt (g := gb) (List.Mem.head _) 0 rfl; have f1 := hR.cellAt (g := gb) (List.Mem.head _) 1 rfl; have f2 := hR.cellAt (g := gb) (List.Mem.head _) 2 rfl; have f3 := hR.cellAt (g := gb) (List.Mem.head _) 3 rfl; have f4 := hR.cellAt (g := gb) (List.Mem.head _) 4 rfl; have HB := Lib.hid hR.below; clear hR)
  go_wp2_with (go_at_call 86; refine (HK.out _).mono ?_; rintro e w2 ⟨rfl, rfl⟩)
  go_ret
  exact ⟨rfl, HB.out⟩
end Go.Proofs.YtebhiplcoioenaaGreatDoor
/- der.head: the walk. -/
namespace Go.Proofs.YtebhiplcoioenaaGreatDoor
open Go.RowKit

set_option maxRecDepth 100000 in
set_option maxHeartbeats 4000000 in
theorem head_3 (c t : Int) (b : ByteArray) (ad : Option Addr) (n cp deep : Nat) (TH CO : Bool) (k : Bool) (w : World) (hk : ∀ u, Calls Tryz.prog 86 #[.int .i64 t] u fun e w' => e = .returned (.tuple #[.bool TH, .bool CO]) ∧ w' = u) (h1 : ¬ c < 0) (h2 : ¬ 3 < c) (h3 : t < 0) :
    Calls Tryz.prog 62 #[.agg #[.int .i64 c, .int .i64 t, .bool k, .string b, .slice ad n cp], .int .i64 deep] w fun e w' => e = .returned (wrV 62) ∧ Below w.heap.size w w' := by
  have hR := Rws.start w
  have HK := Lib.hid hk
  clear hk
  go_enter Tryz.func62, Tryz.ntmps62
  go_upto_region 1 with (refine wpList_box_rws rfl _ _ (by rfl) (by exact hR) #[.int .i64 c, .int .i64 t, .bool k, .string b, .slice ad n cp] rfl ?_; intro gb w1 hR; have f0 := hR.cellAt (g := gb) (List.Mem.head _) 0 rfl; have f1 := hR.cellAt (g := gb) (List.Mem.head _) 1 rfl; have f2 := hR.cellAt (g := gb) (List.Mem.head _) 2 rfl; have f3 := hR.cellAt (g := gb) (List.Mem.head _) 3 rfl; have f4 := hR.cellAt (g := gb) (List.Mem.head _) 4 rfl; have HB := Lib.hid hR.below; clear hR)
  go_wp2_with (go_at_call 86; refine (HK.out _).mono ?_; rintro e w2 ⟨rfl, rfl⟩)
  go_ret
  exact ⟨rfl, HB.out⟩
set_option maxRecDepth 100000 in
set_option maxHeartbeats 4000000 in
theorem head_61la (c t : Int) (b : ByteArray) (ad : Option Addr) (n cp deep : Nat) (TH CO : Bool) (w : World) (hk : ∀ u, Calls Tryz.prog 86 #[.int .i64 t] u fun e w' => e = .returned (.tuple #[.bool TH, .bool CO]) ∧ w' = u) (h1 : ¬ c < 0) (h2 : ¬ 3 < c) (h3 : ¬ t < 0) (h4 : ¬ 30 < t) (h5 : (c == 0) = true) (h6 : TH = true) (h7 : CO = false) (h8 : 0 < n) :
    Calls Tryz.prog 62 #[.agg #[.int .i64 c, .int .i64 t, .bool false, .string b, .slice ad n cp], .int .i64 deep] w fun e w' => e = .returned (wrV 61) ∧ Below w.heap.size w w' := by
  have hR := Rws.start w
  have HK := Lib.hid hk
  clear hk
  go_enter Tryz.func62, Tryz.ntmps62
  go_upto_region 1 with (refine wpList_box_rws rfl _ _ (by rfl) (by exact hR) #[.int .i64 c, .int .i64 t, .bool false, .string b, .slice ad n cp] rfl ?_; intro gb w1 hR; have f0 := hR.cellAt (g := gb) (List.Mem.head _) 0 rfl; have f1 := hR.cellAt (g := gb) (List.Mem.head _) 1 rfl; have f2 := hR.cellAt (g := gb) (List.Mem.head _) 2 rfl; have f3 := hR.cellAt (g := gb) (List.Mem.head _) 3 rfl; have f4 := hR.cellAt (g := gb) (List.Mem.head _) 4 rfl; have HB := Lib.hid hR.below; clear hR)
  go_wp2_with (go_at_call 86; refine (HK.out _).mono ?_; rintro e w2 ⟨rfl, rfl⟩)
  go_ret
  exact ⟨rfl, HB.out⟩
set_option maxRecDepth 100000 in
set_option maxHeartbeats 4000000 in
theorem head_63b (c t : Int) (b : ByteArray) (ad : Option Addr) (n cp deep : Nat) (TH CO : Bool) (w : World) (hk : ∀ u, Calls Tryz.prog 86 #[.int .i64 t] u fun e w' => e = .returned (.tuple #[.bool TH, .bool CO]) ∧ w' = u) (h1 : ¬ c < 0) (h2 : ¬ 3 < c) (h3 : ¬ t < 0) (h4 : ¬ 30 < t) (h5 : (c == 0) = false) (h8 : (b.toList == []) = true) (h9 : 16 ≤ deep) :
    Calls Tryz.prog 62 #[.agg #[.int .i64 c, .int .i64 t, .bool true, .string b, .slice ad n cp], .int .i64 deep] w fun e w' => e = .returned (wrV 63) ∧ Below w.heap.size w w' := by
  have hR := Rws.start w
  have HK := Lib.hid hk
  clear hk
  go_enter Tryz.func62, Tryz.ntmps62
  go_upto_region 1 with (refine wpList_box_rws rfl _ _ (by rfl) (by exact hR) #[.int .i64 c, .int .i64 t, .bool true, .string b, .slice ad n cp] rfl ?_; intro gb w1 hR; have f0 := hR.cellAt (g := gb) (List.Mem.head _) 0 rfl; have f1 := hR.cellAt (g := gb) (List.Mem.head _) 1 rfl; have f2 := hR.cellAt (g := gb) (List.Mem.head _) 2 rfl; have f3 := hR.cellAt (g := gb) (List.Mem.head _) 3 rfl; have f4 := hR.cellAt (g := gb) (List.Mem.head _) 4 rfl; have HB := Lib.hid hR.below; clear hR)
  go_wp2_with (go_at_call 86; refine (HK.out _).mono ?_; rintro e w2 ⟨rfl, rfl⟩)
  go_ret
  exact ⟨rfl, HB.out⟩
end Go.Proofs.YtebhiplcoioenaaGreatDoor
/- der.head: the walk. -/
namespace Go.Proofs.YtebhiplcoioenaaGreatDoor
open Go.RowKit

set_option maxRecDepth 100000 in
set_option maxHeartbeats 4000000 in
theorem head_4 (c t : Int) (b : ByteArray) (ad : Option Addr) (n cp deep : Nat) (TH CO : Bool) (k : Bool) (w : World) (hk : ∀ u, Calls Tryz.prog 86 #[.int .i64 t] u fun e w' => e = .returned (.tuple #[.bool TH, .bool CO]) ∧ w' = u) (h1 : ¬ c < 0) (h2 : ¬ 3 < c) (h3 : ¬ t < 0) (h4 : 30 < t) :
    Calls Tryz.prog 62 #[.agg #[.int .i64 c, .int .i64 t, .bool k, .string b, .slice ad n cp], .int .i64 deep] w fun e w' => e = .returned (wrV 62) ∧ Below w.heap.size w w' := by
  have hR := Rws.start w
  have HK := Lib.hid hk
  clear hk
  go_enter Tryz.func62, Tryz.ntmps62
  go_upto_region 1 with (refine wpList_box_rws rfl _ _ (by rfl) (by exact hR) #[.int .i64 c, .int .i64 t, .bool k, .string b, .slice ad n cp] rfl ?_; intro gb w1 hR; have f0 := hR.cellAt (g := gb) (List.Mem.head _) 0 rfl; have f1 := hR.cellAt (g := gb) (List.Mem.head _) 1 rfl; have f2 := hR.cellAt (g := gb) (List.Mem.head _) 2 rfl; have f3 := hR.cellAt (g := gb) (List.Mem.head _) 3 rfl; have f4 := hR.cellAt (g := gb) (List.Mem.head _) 4 rfl; have HB := Lib.hid hR.below; clear hR)
  go_wp2_with (go_at_call 86; refine (HK.out _).mono ?_; rintro e w2 ⟨rfl, rfl⟩)
  go_ret
  exact ⟨rfl, HB.out⟩
set_option maxRecDepth 100000 in
set_option maxHeartbeats 4000000 in
theorem head_63a (c t : Int) (b : ByteArray) (ad : Option Addr) (n cp deep : Nat) (TH CO : Bool) (w : World) (hk : ∀ u, Calls Tryz.prog 86 #[.int .i64 t] u fun e w' => e = .returned (.tuple #[.bool TH, .bool CO]) ∧ w' = u) (h1 : ¬ c < 0) (h2 : ¬ 3 < c) (h3 : ¬ t < 0) (h4 : ¬ 30 < t) (h5 : (c == 0) = true) (h6 : TH = true) (h7 : CO = true) (h8 : (b.toList == []) = true) (h9 : 16 ≤ deep) :
    Calls Tryz.prog 62 #[.agg #[.int .i64 c, .int .i64 t, .bool true, .string b, .slice ad n cp], .int .i64 deep] w fun e w' => e = .returned (wrV 63) ∧ Below w.heap.size w w' := by
  have hR := Rws.start w
  have HK := Lib.hid hk
  clear hk
  go_enter Tryz.func62, Tryz.ntmps62
  go_upto_region 1 with (refine wpList_box_rws rfl _ _ (by rfl) (by exact hR) #[.int .i64 c, .int .i64 t, .bool true, .string b, .slice ad n cp] rfl ?_; intro gb w1 hR; have f0 := hR.cellAt (g := gb) (List.Mem.head _) 0 rfl; have f1 := hR.cellAt (g := gb) (List.Mem.head _) 1 rfl; have f2 := hR.cellAt (g := gb) (List.Mem.head _) 2 rfl; have f3 := hR.cellAt (g := gb) (List.Mem.head _) 3 rfl; have f4 := hR.cellAt (g := gb) (List.Mem.head _) 4 rfl; have HB := Lib.hid hR.below; clear hR)
  go_wp2_with (go_at_call 86; refine (HK.out _).mono ?_; rintro e w2 ⟨rfl, rfl⟩)
  go_ret
  exact ⟨rfl, HB.out⟩
set_option maxRecDepth 100000 in
set_option maxHeartbeats 4000000 in
theorem head_0kb (c t : Int) (b : ByteArray) (ad : Option Addr) (n cp deep : Nat) (TH CO : Bool) (w : World) (hk : ∀ u, Calls Tryz.prog 86 #[.int .i64 t] u fun e w' => e = .returned (.tuple #[.bool TH, .bool CO]) ∧ w' = u) (h1 : ¬ c < 0) (h2 : ¬ 3 < c) (h3 : ¬ t < 0) (h4 : ¬ 30 < t) (h5 : (c == 0) = false) (h8 : (b.toList == []) = true) (h9 : ¬ 16 ≤ deep) :
    Calls Tryz.prog 62 #[.agg #[.int .i64 c, .int .i64 t, .bool true, .string b, .slice ad n cp], .int .i64 deep] w fun e w' => e = .returned (.nilIface) ∧ Below w.heap.size w w' := by
  have hR := Rws.start w
  have HK := Lib.hid hk
  clear hk
  go_enter Tryz.func62, Tryz.ntmps62
  go_upto_region 1 with (refine wpList_box_rws rfl _ _ (by rfl) (by exact hR) #[.int .i64 c, .int .i64 t, .bool true, .string b, .slice ad n cp] rfl ?_; intro gb w1 hR; have f0 := hR.cellAt (g := gb) (List.Mem.head _) 0 rfl; have f1 := hR.cellAt (g := gb) (List.Mem.head _) 1 rfl; have f2 := hR.cellAt (g := gb) (List.Mem.head _) 2 rfl; have f3 := hR.cellAt (g := gb) (List.Mem.head _) 3 rfl; have f4 := hR.cellAt (g := gb) (List.Mem.head _) 4 rfl; have HB := Lib.hid hR.below; clear hR)
  go_wp2_with (go_at_call 86; refine (HK.out _).mono ?_; rintro e w2 ⟨rfl, rfl⟩)
  go_ret
  exact ⟨rfl, HB.out⟩
end Go.Proofs.YtebhiplcoioenaaGreatDoor
/- der.head: the walk. -/
namespace Go.Proofs.YtebhiplcoioenaaGreatDoor
open Go.RowKit

set_option maxRecDepth 100000 in
set_option maxHeartbeats 4000000 in
theorem head_5 (c t : Int) (b : ByteArray) (ad : Option Addr) (n cp deep : Nat) (TH CO : Bool) (k : Bool) (w : World) (hk : ∀ u, Calls Tryz.prog 86 #[.int .i64 t] u fun e w' => e = .returned (.tuple #[.bool TH, .bool CO]) ∧ w' = u) (h1 : ¬ c < 0) (h2 : ¬ 3 < c) (h3 : ¬ t < 0) (h4 : ¬ 30 < t) (h5 : (c == 0) = true) (h6 : TH = false) :
    Calls Tryz.prog 62 #[.agg #[.int .i64 c, .int .i64 t, .bool k, .string b, .slice ad n cp], .int .i64 deep] w fun e w' => e = .returned (wrV 62) ∧ Below w.heap.size w w' := by
  have hR := Rws.start w
  have HK := Lib.hid hk
  clear hk
  go_enter Tryz.func62, Tryz.ntmps62
  go_upto_region 1 with (refine wpList_box_rws rfl _ _ (by rfl) (by exact hR) #[.int .i64 c, .int .i64 t, .bool k, .string b, .slice ad n cp] rfl ?_; intro gb w1 hR; have f0 := hR.cellAt (g := gb) (List.Mem.head _) 0 rfl; have f1 := hR.cellAt (g := gb) (List.Mem.head _) 1 rfl; have f2 := hR.cellAt (g := gb) (List.Mem.head _) 2 rfl; have f3 := hR.cellAt (g := gb) (List.Mem.head _) 3 rfl; have f4 := hR.cellAt (g := gb) (List.Mem.head _) 4 rfl; have HB := Lib.hid hR.below; clear hR)
  go_wp2_with (go_at_call 86; refine (HK.out _).mono ?_; rintro e w2 ⟨rfl, rfl⟩)
  go_ret
  exact ⟨rfl, HB.out⟩
set_option maxRecDepth 100000 in
set_option maxHeartbeats 4000000 in
theorem head_0ka (c t : Int) (b : ByteArray) (ad : Option Addr) (n cp deep : Nat) (TH CO : Bool) (w : World) (hk : ∀ u, Calls Tryz.prog 86 #[.int .i64 t] u fun e w' => e = .returned (.tuple #[.bool TH, .bool CO]) ∧ w' = u) (h1 : ¬ c < 0) (h2 : ¬ 3 < c) (h3 : ¬ t < 0) (h4 : ¬ 30 < t) (h5 : (c == 0) = true) (h6 : TH = true) (h7 : CO = true) (h8 : (b.toList == []) = true) (h9 : ¬ 16 ≤ deep) :
    Calls Tryz.prog 62 #[.agg #[.int .i64 c, .int .i64 t, .bool true, .string b, .slice ad n cp], .int .i64 deep] w fun e w' => e = .returned (.nilIface) ∧ Below w.heap.size w w' := by
  have hR := Rws.start w
  have HK := Lib.hid hk
  clear hk
  go_enter Tryz.func62, Tryz.ntmps62
  go_upto_region 1 with (refine wpList_box_rws rfl _ _ (by rfl) (by exact hR) #[.int .i64 c, .int .i64 t, .bool true, .string b, .slice ad n cp] rfl ?_; intro gb w1 hR; have f0 := hR.cellAt (g := gb) (List.Mem.head _) 0 rfl; have f1 := hR.cellAt (g := gb) (List.Mem.head _) 1 rfl; have f2 := hR.cellAt (g := gb) (List.Mem.head _) 2 rfl; have f3 := hR.cellAt (g := gb) (List.Mem.head _) 3 rfl; have f4 := hR.cellAt (g := gb) (List.Mem.head _) 4 rfl; have HB := Lib.hid hR.below; clear hR)
  go_wp2_with (go_at_call 86; refine (HK.out _).mono ?_; rintro e w2 ⟨rfl, rfl⟩)
  go_ret
  exact ⟨rfl, HB.out⟩
set_option maxRecDepth 100000 in
set_option maxHeartbeats 4000000 in
theorem head_0pb (c t : Int) (b : ByteArray) (ad : Option Addr) (n cp deep : Nat) (TH CO : Bool) (w : World) (hk : ∀ u, Calls Tryz.prog 86 #[.int .i64 t] u fun e w' => e = .returned (.tuple #[.bool TH, .bool CO]) ∧ w' = u) (h1 : ¬ c < 0) (h2 : ¬ 3 < c) (h3 : ¬ t < 0) (h4 : ¬ 30 < t) (h5 : (c == 0) = false) (h8 : n = 0) :
    Calls Tryz.prog 62 #[.agg #[.int .i64 c, .int .i64 t, .bool false, .string b, .slice ad n cp], .int .i64 deep] w fun e w' => e = .returned (.nilIface) ∧ Below w.heap.size w w' := by
  have hR := Rws.start w
  have HK := Lib.hid hk
  clear hk
  go_enter Tryz.func62, Tryz.ntmps62
  go_upto_region 1 with (refine wpList_box_rws rfl _ _ (by rfl) (by exact hR) #[.int .i64 c, .int .i64 t, .bool false, .string b, .slice ad n cp] rfl ?_; intro gb w1 hR; have f0 := hR.cellAt (g := gb) (List.Mem.head _) 0 rfl; have f1 := hR.cellAt (g := gb) (List.Mem.head _) 1 rfl; have f2 := hR.cellAt (g := gb) (List.Mem.head _) 2 rfl; have f3 := hR.cellAt (g := gb) (List.Mem.head _) 3 rfl; have f4 := hR.cellAt (g := gb) (List.Mem.head _) 4 rfl; have HB := Lib.hid hR.below; clear hR)
  go_wp2_with (go_at_call 86; refine (HK.out _).mono ?_; rintro e w2 ⟨rfl, rfl⟩)
  go_ret
  exact ⟨rfl, HB.out⟩
end Go.Proofs.YtebhiplcoioenaaGreatDoor
/- der.head: the walk. -/
namespace Go.Proofs.YtebhiplcoioenaaGreatDoor
open Go.RowKit

set_option maxRecDepth 100000 in
set_option maxHeartbeats 4000000 in
theorem head_61qt (c t : Int) (b : ByteArray) (ad : Option Addr) (n cp deep : Nat) (TH CO : Bool) (w : World) (hk : ∀ u, Calls Tryz.prog 86 #[.int .i64 t] u fun e w' => e = .returned (.tuple #[.bool TH, .bool CO]) ∧ w' = u) (h1 : ¬ c < 0) (h2 : ¬ 3 < c) (h3 : ¬ t < 0) (h4 : ¬ 30 < t) (h5 : (c == 0) = true) (h6 : TH = true) (h7 : CO = false) :
    Calls Tryz.prog 62 #[.agg #[.int .i64 c, .int .i64 t, .bool true, .string b, .slice ad n cp], .int .i64 deep] w fun e w' => e = .returned (wrV 61) ∧ Below w.heap.size w w' := by
  have hR := Rws.start w
  have HK := Lib.hid hk
  clear hk
  go_enter Tryz.func62, Tryz.ntmps62
  go_upto_region 1 with (refine wpList_box_rws rfl _ _ (by rfl) (by exact hR) #[.int .i64 c, .int .i64 t, .bool true, .string b, .slice ad n cp] rfl ?_; intro gb w1 hR; have f0 := hR.cellAt (g := gb) (List.Mem.head _) 0 rfl; have f1 := hR.cellAt (g := gb) (List.Mem.head _) 1 rfl; have f2 := hR.cellAt (g := gb) (List.Mem.head _) 2 rfl; have f3 := hR.cellAt (g := gb) (List.Mem.head _) 3 rfl; have f4 := hR.cellAt (g := gb) (List.Mem.head _) 4 rfl; have HB := Lib.hid hR.below; clear hR)
  go_wp2_with (go_at_call 86; refine (HK.out _).mono ?_; rintro e w2 ⟨rfl, rfl⟩)
  go_ret
  exact ⟨rfl, HB.out⟩
set_option maxRecDepth 100000 in
set_option maxHeartbeats 4000000 in
theorem head_0pa (c t : Int) (b : ByteArray) (ad : Option Addr) (n cp deep : Nat) (TH CO : Bool) (w : World) (hk : ∀ u, Calls Tryz.prog 86 #[.int .i64 t] u fun e w' => e = .returned (.tuple #[.bool TH, .bool CO]) ∧ w' = u) (h1 : ¬ c < 0) (h2 : ¬ 3 < c) (h3 : ¬ t < 0) (h4 : ¬ 30 < t) (h5 : (c == 0) = true) (h6 : TH = true) (h7 : CO = false) (h8 : n = 0) :
    Calls Tryz.prog 62 #[.agg #[.int .i64 c, .int .i64 t, .bool false, .string b, .slice ad n cp], .int .i64 deep] w fun e w' => e = .returned (.nilIface) ∧ Below w.heap.size w w' := by
  have hR := Rws.start w
  have HK := Lib.hid hk
  clear hk
  go_enter Tryz.func62, Tryz.ntmps62
  go_upto_region 1 with (refine wpList_box_rws rfl _ _ (by rfl) (by exact hR) #[.int .i64 c, .int .i64 t, .bool false, .string b, .slice ad n cp] rfl ?_; intro gb w1 hR; have f0 := hR.cellAt (g := gb) (List.Mem.head _) 0 rfl; have f1 := hR.cellAt (g := gb) (List.Mem.head _) 1 rfl; have f2 := hR.cellAt (g := gb) (List.Mem.head _) 2 rfl; have f3 := hR.cellAt (g := gb) (List.Mem.head _) 3 rfl; have f4 := hR.cellAt (g := gb) (List.Mem.head _) 4 rfl; have HB := Lib.hid hR.below; clear hR)
  go_wp2_with (go_at_call 86; refine (HK.out _).mono ?_; rintro e w2 ⟨rfl, rfl⟩)
  go_ret
  exact ⟨rfl, HB.out⟩
end Go.Proofs.YtebhiplcoioenaaGreatDoor
/- der.head: the walk. -/
namespace Go.Proofs.YtebhiplcoioenaaGreatDoor
open Go.RowKit

def errO (e : Int) : Value := if e = 0 then .nilIface else wrV e
theorem errO_A (e : Int) : ErrA e (errO e) := by
  unfold errO
  by_cases h : e = 0
  · rw [if_pos h]; exact Or.inl ⟨h, rfl⟩
  · rw [if_neg h]; exact Or.inr ⟨h, 0, ErrV.wrong⟩
theorem head_any (v : Dv) (ad : Option Addr) (cp deep : Nat) (w : World) : Calls Tryz.prog 62 #[dvv v ad cp, .int .i64 deep] w fun e w' => e = .returned (errO (headE v.c v.t v.k v.b v.l.len deep)) ∧ Below w.heap.size w w' := by
  obtain ⟨c, t, k, b, l⟩ := v
  have hk := fun u => kind_any t u
  have hbl := bs_list b
  unfold headE
  simp only
  by_cases h1 : c < 0
  · rw [if_pos (Or.inl h1)]; exact head_1 c t (bs b) ad l.len cp deep _ _ k w hk h1
  by_cases h2 : 3 < c
  · rw [if_pos (Or.inr (Or.inl h2))]; exact head_2 c t (bs b) ad l.len cp deep _ _ k w hk h1 h2
  by_cases h3 : t < 0
  · rw [if_pos (Or.inr (Or.inr (Or.inl h3)))]; exact head_3 c t (bs b) ad l.len cp deep _ _ k w hk h1 h2 h3
  by_cases h4 : 30 < t
  · rw [if_pos (Or.inr (Or.inr (Or.inr (Or.inl h4))))]; exact head_4 c t (bs b) ad l.len cp deep _ _ k w hk h1 h2 h3 h4
  by_cases h5 : c = 0
  · have h5z : (c == 0) = true := by simpa using h5
    cases h6 : thereB t with
    | false =>
      rw [if_pos (Or.inr (Or.inr (Or.inr (Or.inr ⟨h5, rfl⟩))))]
      exact head_5 c t (bs b) ad l.len cp deep _ _ k w hk h1 h2 h3 h4 h5z h6
    | true =>
      rw [if_neg (fun hh => by rcases hh with h | h | h | h | ⟨_, h⟩ <;> first | omega | cases h)]
      cases k with
      | true =>
        by_cases h7 : consB t = true
        · by_cases h8 : b = []
          · have h8z : ((bs b).toList == []) = true := by rw [hbl, h8]; rfl
            rw [if_neg (fun hh => by rcases hh with ⟨_, h⟩ | ⟨_, h⟩ | ⟨h, _⟩ <;> first | exact h h7 | exact h h8 | cases h)]
            by_cases h9 : 16 ≤ deep
            · rw [if_pos ⟨rfl, h9⟩]; exact head_63a c t (bs b) ad l.len cp deep _ _ w hk h1 h2 h3 h4 h5z h6 h7 h8z h9
            · rw [if_neg (fun hh => h9 hh.2)]; exact head_0ka c t (bs b) ad l.len cp deep _ _ w hk h1 h2 h3 h4 h5z h6 h7 h8z h9
          · rw [if_pos (Or.inr (Or.inl ⟨rfl, h8⟩))]
            exact head_61ba c t (bs b) ad l.len cp deep _ _ w hk h1 h2 h3 h4 h5z h6 h7 (by rw [hbl]; simpa using h8)
        · rw [if_pos (Or.inl ⟨h5, h7⟩)]
          exact head_61qt c t (bs b) ad l.len cp deep _ _ w hk h1 h2 h3 h4 h5z h6 (by simpa using h7)
      | false =>
        by_cases h7 : consB t = false
        · by_cases h8 : 0 < l.len
          · rw [if_pos (Or.inr (Or.inr ⟨rfl, h8⟩))]
            exact head_61la c t (bs b) ad l.len cp deep _ _ w hk h1 h2 h3 h4 h5z h6 h7 h8
          · rw [if_neg (fun hh => by rcases hh with ⟨_, h⟩ | ⟨h, _⟩ | ⟨_, h⟩ <;> first | exact h h7 | exact h8 h | cases h), if_neg (fun hh => by cases hh.1)]
            exact head_0pa c t (bs b) ad l.len cp deep _ _ w hk h1 h2 h3 h4 h5z h6 h7 (by omega)
        · rw [if_pos (Or.inl ⟨h5, h7⟩)]
          exact head_61qf c t (bs b) ad l.len cp deep _ _ w hk h1 h2 h3 h4 h5z h6 (by simpa using h7)
  · have h5z : (c == 0) = false := by simpa using h5
    rw [if_neg (fun hh => by rcases hh with h | h | h | h | ⟨h, _⟩ <;> omega)]
    cases k with
    | true =>
      by_cases h8 : b = []
      · have h8z : ((bs b).toList == []) = true := by rw [hbl, h8]; rfl
        rw [if_neg (fun hh => by rcases hh with ⟨h, _⟩ | ⟨_, h⟩ | ⟨h, _⟩ <;> first | exact h5 h | exact h h8 | cases h)]
        by_cases h9 : 16 ≤ deep
        · rw [if_pos ⟨rfl, h9⟩]; exact head_63b c t (bs b) ad l.len cp deep _ _ w hk h1 h2 h3 h4 h5z h8z h9
        · rw [if_neg (fun hh => h9 hh.2)]; exact head_0kb c t (bs b) ad l.len cp deep _ _ w hk h1 h2 h3 h4 h5z h8z h9
      · rw [if_pos (Or.inr (Or.inl ⟨rfl, h8⟩))]
        exact head_61bb c t (bs b) ad l.len cp deep _ _ w hk h1 h2 h3 h4 h5z (by rw [hbl]; simpa using h8)
    | false =>
      by_cases h8 : 0 < l.len
      · rw [if_pos (Or.inr (Or.inr ⟨rfl, h8⟩))]
        exact head_61lb c t (bs b) ad l.len cp deep _ _ w hk h1 h2 h3 h4 h5z h8
      · rw [if_neg (fun hh => by rcases hh with ⟨h, _⟩ | ⟨h, _⟩ | ⟨_, h⟩ <;> first | exact h5 h | exact h8 h | cases h), if_neg (fun hh => by cases hh.1)]
        exact head_0pb c t (bs b) ad l.len cp deep _ _ w hk h1 h2 h3 h4 h5z (by omega)
end Go.Proofs.YtebhiplcoioenaaGreatDoor
