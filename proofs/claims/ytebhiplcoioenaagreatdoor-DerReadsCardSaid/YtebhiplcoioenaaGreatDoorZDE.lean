/- ZBytes ZBytes2, in one text. -/
import Derived.Test.YtebhiplcoioenaaGreatDoorZZUtf
import Derived.Test.YtebhiplcoioenaaGreatDoorZZMom
import Derived.Test.YtebhiplcoioenaaGreatDoorZZTrim
/- der.bytes: the walk, tag by tag. -/
namespace Go.Proofs.YtebhiplcoioenaaGreatDoor
open Go.RowKit

def fineV (b : Bool) : Value := if b then .nilIface else wrV 61
theorem and_128 (x : UInt8) : bits BinOp.and IntKind.u8 ((x.toNat : Nat) : Int) 128 = if x.toNat < 128 then 0 else 128 :=
  every_byte (P := fun x => bits BinOp.and IntKind.u8 ((x.toNat : Nat) : Int) 128 = if x.toNat < 128 then 0 else 128) (by decide +kernel) x
set_option maxRecDepth 100000 in
set_option maxHeartbeats 4000000 in
theorem bytes_1a (s : Bs) (w : World) (_hs : s.length ≤ SB) (h : ((bs s).toList == [0]) = true) : Calls Tryz.prog 66 #[.int .i64 1, .string (bs s)] w fun e w' => e = .returned (.nilIface) ∧ Below w.heap.size w w' := by
  have hSB := SB_eq
  have zs := bs_size s
  generalize bs s = T at *
  have HIS : Hid (∀ u, Calls Tryz.prog 34 #[.bool false, .int .i64 61] u fun e w' => e = .returned (.nilIface) ∧ w' = u) := Lib.hid fun u => is_any false 61 u
  go_enter Tryz.func66, Tryz.ntmps66
  go_wp2_with (go_at_call 34; refine (HIS.out _).mono ?_; rintro e wi ⟨rfl, rfl⟩)
  go_ret
  exact ⟨rfl, Below.refl _ _⟩
set_option maxRecDepth 100000 in
set_option maxHeartbeats 4000000 in
theorem bytes_1b (s : Bs) (w : World) (_hs : s.length ≤ SB) (h : ((bs s).toList == [0]) = false) (h2 : ((bs s).toList == [255]) = true) : Calls Tryz.prog 66 #[.int .i64 1, .string (bs s)] w fun e w' => e = .returned (.nilIface) ∧ Below w.heap.size w w' := by
  have hSB := SB_eq
  have zs := bs_size s
  generalize bs s = T at *
  have HIS : Hid (∀ u, Calls Tryz.prog 34 #[.bool false, .int .i64 61] u fun e w' => e = .returned (.nilIface) ∧ w' = u) := Lib.hid fun u => is_any false 61 u
  go_enter Tryz.func66, Tryz.ntmps66
  go_wp2_with (go_at_call 34; refine (HIS.out _).mono ?_; rintro e wi ⟨rfl, rfl⟩)
  go_ret
  exact ⟨rfl, Below.refl _ _⟩
set_option maxRecDepth 100000 in
set_option maxHeartbeats 4000000 in
theorem bytes_1c (s : Bs) (w : World) (_hs : s.length ≤ SB) (h : ((bs s).toList == [0]) = false) (h2 : ((bs s).toList == [255]) = false) : Calls Tryz.prog 66 #[.int .i64 1, .string (bs s)] w fun e w' => e = .returned (wrV 61) ∧ Below w.heap.size w w' := by
  have hSB := SB_eq
  have zs := bs_size s
  generalize bs s = T at *
  have HIS : Hid (∀ u, Calls Tryz.prog 34 #[.bool true, .int .i64 61] u fun e w' => e = .returned (wrV 61) ∧ w' = u) := Lib.hid fun u => is_any true 61 u
  go_enter Tryz.func66, Tryz.ntmps66
  go_wp2_with (go_at_call 34; refine (HIS.out _).mono ?_; rintro e wi ⟨rfl, rfl⟩)
  go_ret
  exact ⟨rfl, Below.refl _ _⟩
set_option maxRecDepth 100000 in
set_option maxHeartbeats 4000000 in
theorem bytes_2a (s : Bs) (w : World) (_hs : s.length ≤ SB) (h : ((bs s).toList == []) = true) : Calls Tryz.prog 66 #[.int .i64 2, .string (bs s)] w fun e w' => e = .returned (wrV 61) ∧ Below w.heap.size w w' := by
  have hSB := SB_eq
  have zs := bs_size s
  generalize bs s = T at *
  have HIS : Hid (∀ u, Calls Tryz.prog 34 #[.bool true, .int .i64 61] u fun e w' => e = .returned (wrV 61) ∧ w' = u) := Lib.hid fun u => is_any true 61 u
  go_enter Tryz.func66, Tryz.ntmps66
  go_upto_region 6 with fail
  go_quiet (fail)
  go_wp2_with (go_at_call 34; refine (HIS.out _).mono ?_; rintro e wi ⟨rfl, rfl⟩)
  go_ret
  exact ⟨rfl, below_drewN _ _⟩
set_option maxRecDepth 100000 in
set_option maxHeartbeats 4000000 in
theorem bytes_2b (s : Bs) (w : World) (_hs : s.length ≤ SB) (h : ((bs s).toList == []) = false) (h1 : s.length = 1) : Calls Tryz.prog 66 #[.int .i64 2, .string (bs s)] w fun e w' => e = .returned (.nilIface) ∧ Below w.heap.size w w' := by
  have hSB := SB_eq
  have zs := bs_size s
  rw [h1] at zs
  generalize bs s = T at *
  have HIS : Hid (∀ u, Calls Tryz.prog 34 #[.bool false, .int .i64 61] u fun e w' => e = .returned (.nilIface) ∧ w' = u) := Lib.hid fun u => is_any false 61 u
  go_enter Tryz.func66, Tryz.ntmps66
  go_upto_region 6 with fail
  go_quiet (fail)
  go_wp2_with (go_at_call 34; refine (HIS.out _).mono ?_; rintro e wi ⟨rfl, rfl⟩)
  go_ret
  exact ⟨rfl, below_drewN _ _⟩
set_option maxRecDepth 100000 in
set_option maxHeartbeats 4000000 in
theorem bytes_2c (s : Bs) (w : World) (hs : s.length ≤ SB) (a b : UInt8) (r : Bs) (he : s = a :: b :: r) (h1 : ((a.toNat : Int) != 0) = true) (h2 : ((a.toNat : Int) != 255) = true) : Calls Tryz.prog 66 #[.int .i64 2, .string (bs s)] w fun e w' => e = .returned (.nilIface) ∧ Below w.heap.size w w' := by
  have hSB := SB_eq
  have zs := bs_size s
  have q0 : ((bs s).toList == []) = false := by rw [bs_list, he]; rfl
  have g0 := bs_get s 0 a (by rw [he]; rfl)
  have g1 := bs_get s 1 b (by rw [he]; rfl)
  have hl : s.length = r.length + 2 := by rw [he]; rfl
  have hl2 : ((s.length : Int) == 1) = false := by simp; omega
  have hz0 : (0 : Int) < (s.length : Int) := by omega
  have hz1 : (1 : Int) < (s.length : Int) := by omega
  clear he hl
  generalize bs s = T at *
  generalize s.length = n at *
  have HIS : Hid (∀ u, Calls Tryz.prog 34 #[.bool false, .int .i64 61] u fun e w' => e = .returned (.nilIface) ∧ w' = u) := Lib.hid fun u => is_any false 61 u
  go_enter Tryz.func66, Tryz.ntmps66
  go_upto_region 6 with fail
  go_quiet (fail)
  go_wp2_with (go_at_call 34; refine (HIS.out _).mono ?_; rintro e wi ⟨rfl, rfl⟩)
  go_ret
  exact ⟨rfl, below_drewN _ _⟩
set_option maxRecDepth 100000 in
set_option maxHeartbeats 4000000 in
theorem bytes_2d (s : Bs) (w : World) (hs : s.length ≤ SB) (a b : UInt8) (r : Bs) (he : s = a :: b :: r) (h1 : ((a.toNat : Int) != 0) = false) (h3 : (bits BinOp.and IntKind.u8 (a.toNat : Int) 128 != bits BinOp.and IntKind.u8 (b.toNat : Int) 128) = true) : Calls Tryz.prog 66 #[.int .i64 2, .string (bs s)] w fun e w' => e = .returned (.nilIface) ∧ Below w.heap.size w w' := by
  have hSB := SB_eq
  have zs := bs_size s
  have q0 : ((bs s).toList == []) = false := by rw [bs_list, he]; rfl
  have g0 := bs_get s 0 a (by rw [he]; rfl)
  have g1 := bs_get s 1 b (by rw [he]; rfl)
  have hl : s.length = r.length + 2 := by rw [he]; rfl
  have hl2 : ((s.length : Int) == 1) = false := by simp; omega
  have hz0 : (0 : Int) < (s.length : Int) := by omega
  have hz1 : (1 : Int) < (s.length : Int) := by omega
  clear he hl
  generalize bs s = T at *
  generalize s.length = n at *
  have HIS : Hid (∀ u, Calls Tryz.prog 34 #[.bool false, .int .i64 61] u fun e w' => e = .returned (.nilIface) ∧ w' = u) := Lib.hid fun u => is_any false 61 u
  go_enter Tryz.func66, Tryz.ntmps66
  go_upto_region 6 with fail
  go_quiet (fail)
  go_wp2_with (go_at_call 34; refine (HIS.out _).mono ?_; rintro e wi ⟨rfl, rfl⟩)
  go_ret
  exact ⟨rfl, below_drewN _ _⟩
set_option maxRecDepth 100000 in
set_option maxHeartbeats 4000000 in
theorem bytes_2e (s : Bs) (w : World) (hs : s.length ≤ SB) (a b : UInt8) (r : Bs) (he : s = a :: b :: r) (h1 : ((a.toNat : Int) != 0) = false) (h3 : (bits BinOp.and IntKind.u8 (a.toNat : Int) 128 != bits BinOp.and IntKind.u8 (b.toNat : Int) 128) = false) : Calls Tryz.prog 66 #[.int .i64 2, .string (bs s)] w fun e w' => e = .returned (wrV 61) ∧ Below w.heap.size w w' := by
  have hSB := SB_eq
  have zs := bs_size s
  have q0 : ((bs s).toList == []) = false := by rw [bs_list, he]; rfl
  have g0 := bs_get s 0 a (by rw [he]; rfl)
  have g1 := bs_get s 1 b (by rw [he]; rfl)
  have hl : s.length = r.length + 2 := by rw [he]; rfl
  have hl2 : ((s.length : Int) == 1) = false := by simp; omega
  have hz0 : (0 : Int) < (s.length : Int) := by omega
  have hz1 : (1 : Int) < (s.length : Int) := by omega
  clear he hl
  generalize bs s = T at *
  generalize s.length = n at *
  have HIS : Hid (∀ u, Calls Tryz.prog 34 #[.bool true, .int .i64 61] u fun e w' => e = .returned (wrV 61) ∧ w' = u) := Lib.hid fun u => is_any true 61 u
  go_enter Tryz.func66, Tryz.ntmps66
  go_upto_region 6 with fail
  go_quiet (fail)
  go_wp2_with (go_at_call 34; refine (HIS.out _).mono ?_; rintro e wi ⟨rfl, rfl⟩)
  go_ret
  exact ⟨rfl, below_drewN _ _⟩
set_option maxRecDepth 100000 in
set_option maxHeartbeats 4000000 in
theorem bytes_2f (s : Bs) (w : World) (hs : s.length ≤ SB) (a b : UInt8) (r : Bs) (he : s = a :: b :: r) (h1 : ((a.toNat : Int) != 0) = true) (h2 : ((a.toNat : Int) != 255) = false) (h3 : (bits BinOp.and IntKind.u8 (a.toNat : Int) 128 != bits BinOp.and IntKind.u8 (b.toNat : Int) 128) = true) : Calls Tryz.prog 66 #[.int .i64 2, .string (bs s)] w fun e w' => e = .returned (.nilIface) ∧ Below w.heap.size w w' := by
  have hSB := SB_eq
  have zs := bs_size s
  have q0 : ((bs s).toList == []) = false := by rw [bs_list, he]; rfl
  have g0 := bs_get s 0 a (by rw [he]; rfl)
  have g1 := bs_get s 1 b (by rw [he]; rfl)
  have hl : s.length = r.length + 2 := by rw [he]; rfl
  have hl2 : ((s.length : Int) == 1) = false := by simp; omega
  have hz0 : (0 : Int) < (s.length : Int) := by omega
  have hz1 : (1 : Int) < (s.length : Int) := by omega
  clear he hl
  generalize bs s = T at *
  generalize s.length = n at *
  have HIS : Hid (∀ u, Calls Tryz.prog 34 #[.bool false, .int .i64 61] u fun e w' => e = .returned (.nilIface) ∧ w' = u) := Lib.hid fun u => is_any false 61 u
  go_enter Tryz.func66, Tryz.ntmps66
  go_upto_region 6 with fail
  go_quiet (fail)
  go_wp2_with (go_at_call 34; refine (HIS.out _).mono ?_; rintro e wi ⟨rfl, rfl⟩)
  go_ret
  exact ⟨rfl, below_drewN _ _⟩
set_option maxRecDepth 100000 in
set_option maxHeartbeats 4000000 in
theorem bytes_2g (s : Bs) (w : World) (hs : s.length ≤ SB) (a b : UInt8) (r : Bs) (he : s = a :: b :: r) (h1 : ((a.toNat : Int) != 0) = true) (h2 : ((a.toNat : Int) != 255) = false) (h3 : (bits BinOp.and IntKind.u8 (a.toNat : Int) 128 != bits BinOp.and IntKind.u8 (b.toNat : Int) 128) = false) : Calls Tryz.prog 66 #[.int .i64 2, .string (bs s)] w fun e w' => e = .returned (wrV 61) ∧ Below w.heap.size w w' := by
  have hSB := SB_eq
  have zs := bs_size s
  have q0 : ((bs s).toList == []) = false := by rw [bs_list, he]; rfl
  have g0 := bs_get s 0 a (by rw [he]; rfl)
  have g1 := bs_get s 1 b (by rw [he]; rfl)
  have hl : s.length = r.length + 2 := by rw [he]; rfl
  have hl2 : ((s.length : Int) == 1) = false := by simp; omega
  have hz0 : (0 : Int) < (s.length : Int) := by omega
  have hz1 : (1 : Int) < (s.length : Int) := by omega
  clear he hl
  generalize bs s = T at *
  generalize s.length = n at *
  have HIS : Hid (∀ u, Calls Tryz.prog 34 #[.bool true, .int .i64 61] u fun e w' => e = .returned (wrV 61) ∧ w' = u) := Lib.hid fun u => is_any true 61 u
  go_enter Tryz.func66, Tryz.ntmps66
  go_upto_region 6 with fail
  go_quiet (fail)
  go_wp2_with (go_at_call 34; refine (HIS.out _).mono ?_; rintro e wi ⟨rfl, rfl⟩)
  go_ret
  exact ⟨rfl, below_drewN _ _⟩
set_option maxRecDepth 100000 in
set_option maxHeartbeats 4000000 in
theorem bytes_3a (s : Bs) (w : World) (_hs : s.length ≤ SB) (h : ((bs s).toList == []) = true) : Calls Tryz.prog 66 #[.int .i64 3, .string (bs s)] w fun e w' => e = .returned (wrV 61) ∧ Below w.heap.size w w' := by
  have hSB := SB_eq
  have zs := bs_size s
  generalize bs s = T at *
  have HIS : Hid (∀ u, Calls Tryz.prog 34 #[.bool true, .int .i64 61] u fun e w' => e = .returned (wrV 61) ∧ w' = u) := Lib.hid fun u => is_any true 61 u
  go_enter Tryz.func66, Tryz.ntmps66
  go_upto_region 8 with fail
  go_quiet (fail)
  go_wp2_with (go_at_call 34; refine (HIS.out _).mono ?_; rintro e wi ⟨rfl, rfl⟩)
  go_ret
  exact ⟨rfl, below_drewN _ _⟩
set_option maxRecDepth 100000 in
set_option maxHeartbeats 4000000 in
theorem bytes_3b (s : Bs) (w : World) (hs : s.length ≤ SB) (a x : UInt8) (k : Nat) (hm : s.length = k + 1) (hx : s[k]? = some x) (h0 : s[0]? = some a) (h1 : ¬ (a.toNat : Int) < 8) : Calls Tryz.prog 66 #[.int .i64 3, .string (bs s)] w fun e w' => e = .returned (wrV 61) ∧ Below w.heap.size w w' := by
  have hSB := SB_eq
  have zs := bs_size s
  have q0 : ((bs s).toList == []) = false := by
    rw [bs_list]
    cases s with
    | nil => simp at h0
    | cons a r => rfl
  have g0 := bs_get s 0 a h0
  have g1 := bs_get s (k) x hx
  rw [hm] at zs
  have hkb : k ≤ 140737488351232 := by omega
  clear hx h0 hm hs
  generalize bs s = T at *
  have HIS : Hid (∀ u, Calls Tryz.prog 34 #[.bool true, .int .i64 61] u fun e w' => e = .returned (wrV 61) ∧ w' = u) := Lib.hid fun u => is_any true 61 u
  go_enter Tryz.func66, Tryz.ntmps66
  go_upto_region 8 with fail
  go_quiet (fail)
  go_wp2_with (go_at_call 34; refine (HIS.out _).mono ?_; rintro e wi ⟨rfl, rfl⟩)
  go_ret
  exact ⟨rfl, below_drewN _ _⟩
set_option maxRecDepth 100000 in
set_option maxHeartbeats 4000000 in
theorem bytes_3c (s : Bs) (w : World) (hs : s.length ≤ SB) (a x : UInt8) (k : Nat) (hm : s.length = k + 1) (hx : s[k]? = some x) (h0 : s[0]? = some a) (h1 : (a.toNat : Int) < 8) (h2 : ((a.toNat : Int) == 0) = true) : Calls Tryz.prog 66 #[.int .i64 3, .string (bs s)] w fun e w' => e = .returned (.nilIface) ∧ Below w.heap.size w w' := by
  have hSB := SB_eq
  have zs := bs_size s
  have q0 : ((bs s).toList == []) = false := by
    rw [bs_list]
    cases s with
    | nil => simp at h0
    | cons a r => rfl
  have g0 := bs_get s 0 a h0
  have g1 := bs_get s (k) x hx
  rw [hm] at zs
  have hkb : k ≤ 140737488351232 := by omega
  clear hx h0 hm hs
  generalize bs s = T at *
  have HIS : Hid (∀ u, Calls Tryz.prog 34 #[.bool false, .int .i64 61] u fun e w' => e = .returned (.nilIface) ∧ w' = u) := Lib.hid fun u => is_any false 61 u
  go_enter Tryz.func66, Tryz.ntmps66
  go_upto_region 8 with fail
  go_quiet (fail)
  go_wp2_with (go_at_call 34; refine (HIS.out _).mono ?_; rintro e wi ⟨rfl, rfl⟩)
  go_ret
  exact ⟨rfl, below_drewN _ _⟩
set_option maxRecDepth 100000 in
set_option maxHeartbeats 4000000 in
theorem bytes_3d (s : Bs) (w : World) (hs : s.length ≤ SB) (a x : UInt8) (hm : s.length = 0 + 1) (hx : s[0]? = some x) (h0 : s[0]? = some a) (h1 : (a.toNat : Int) < 8) (h2 : ((a.toNat : Int) == 0) = false) : Calls Tryz.prog 66 #[.int .i64 3, .string (bs s)] w fun e w' => e = .returned (wrV 61) ∧ Below w.heap.size w w' := by
  have hSB := SB_eq
  have zs := bs_size s
  have q0 : ((bs s).toList == []) = false := by
    rw [bs_list]
    cases s with
    | nil => simp at h0
    | cons a r => rfl
  have g0 := bs_get s 0 a h0
  have g1 := bs_get s (0) x hx
  rw [hm] at zs
  have hkb : 0 ≤ 140737488351232 := by omega
  clear hx h0 hm hs
  generalize bs s = T at *
  have HIS : Hid (∀ u, Calls Tryz.prog 34 #[.bool true, .int .i64 61] u fun e w' => e = .returned (wrV 61) ∧ w' = u) := Lib.hid fun u => is_any true 61 u
  go_enter Tryz.func66, Tryz.ntmps66
  go_upto_region 8 with fail
  go_quiet (fail)
  go_wp2_with (go_at_call 34; refine (HIS.out _).mono ?_; rintro e wi ⟨rfl, rfl⟩)
  go_ret
  exact ⟨rfl, below_drewN _ _⟩
set_option maxRecDepth 100000 in
set_option maxHeartbeats 4000000 in
theorem bytes_3e1t (s : Bs) (w : World) (hs : s.length ≤ SB) (a x : UInt8) (k : Nat) (hm : s.length = (k + 1) + 1) (hx : s[(k + 1)]? = some x) (h0 : s[0]? = some a) (ha : a.toNat = 1) (h3 : (bits BinOp.and IntKind.u8 (x.toNat : Int) 1 == 0) = true) : Calls Tryz.prog 66 #[.int .i64 3, .string (bs s)] w fun e w' => e = .returned (.nilIface) ∧ Below w.heap.size w w' := by
  have hSB := SB_eq
  have zs := bs_size s
  have q0 : ((bs s).toList == []) = false := by
    rw [bs_list]
    cases s with
    | nil => simp at h0
    | cons a r => rfl
  have g0 := bs_get s 0 a h0
  have g1 := bs_get s ((k + 1)) x hx
  rw [hm] at zs
  have hkb : (k + 1) ≤ 140737488351232 := by omega
  clear hx h0 hm hs
  generalize bs s = T at *
  have z0 : (0 : Int) < (k : Int) + 1 + 1 := by omega
  have z1 : (1 : Int) < (k : Int) + 1 + 1 := by omega
  have z2 : (0 : Int) ≤ (k : Int) + 1 := by omega
  have z3 : (k : Int) + 1 < (k : Int) + 1 + 1 := by omega
  have hw : ∀ _ : True, IntKind.i64.wrap ((k : Int) + 1) = (k : Int) + 1 := fun _ => by rw [IntKind.wrap_i64]; omega
  have hu : ∀ _ : True, IntKind.u8.wrap 1 = 1 := fun _ => by decide
  have HIS : Hid (∀ u, Calls Tryz.prog 34 #[.bool false, .int .i64 61] u fun e w' => e = .returned (.nilIface) ∧ w' = u) := Lib.hid fun u => is_any false 61 u
  go_enter Tryz.func66, Tryz.ntmps66
  go_upto_region 8 with fail
  go_quiet (fail)
  go_wp2_with (go_at_call 34; refine (HIS.out _).mono ?_; rintro e wi ⟨rfl, rfl⟩)
  go_ret
  exact ⟨rfl, below_drewN _ _⟩
set_option maxRecDepth 100000 in
set_option maxHeartbeats 4000000 in
theorem bytes_3e1f (s : Bs) (w : World) (hs : s.length ≤ SB) (a x : UInt8) (k : Nat) (hm : s.length = (k + 1) + 1) (hx : s[(k + 1)]? = some x) (h0 : s[0]? = some a) (ha : a.toNat = 1) (h3 : (bits BinOp.and IntKind.u8 (x.toNat : Int) 1 == 0) = false) : Calls Tryz.prog 66 #[.int .i64 3, .string (bs s)] w fun e w' => e = .returned (wrV 61) ∧ Below w.heap.size w w' := by
  have hSB := SB_eq
  have zs := bs_size s
  have q0 : ((bs s).toList == []) = false := by
    rw [bs_list]
    cases s with
    | nil => simp at h0
    | cons a r => rfl
  have g0 := bs_get s 0 a h0
  have g1 := bs_get s ((k + 1)) x hx
  rw [hm] at zs
  have hkb : (k + 1) ≤ 140737488351232 := by omega
  clear hx h0 hm hs
  generalize bs s = T at *
  have z0 : (0 : Int) < (k : Int) + 1 + 1 := by omega
  have z1 : (1 : Int) < (k : Int) + 1 + 1 := by omega
  have z2 : (0 : Int) ≤ (k : Int) + 1 := by omega
  have z3 : (k : Int) + 1 < (k : Int) + 1 + 1 := by omega
  have hw : ∀ _ : True, IntKind.i64.wrap ((k : Int) + 1) = (k : Int) + 1 := fun _ => by rw [IntKind.wrap_i64]; omega
  have hu : ∀ _ : True, IntKind.u8.wrap 1 = 1 := fun _ => by decide
  have HIS : Hid (∀ u, Calls Tryz.prog 34 #[.bool true, .int .i64 61] u fun e w' => e = .returned (wrV 61) ∧ w' = u) := Lib.hid fun u => is_any true 61 u
  go_enter Tryz.func66, Tryz.ntmps66
  go_upto_region 8 with fail
  go_quiet (fail)
  go_wp2_with (go_at_call 34; refine (HIS.out _).mono ?_; rintro e wi ⟨rfl, rfl⟩)
  go_ret
  exact ⟨rfl, below_drewN _ _⟩
set_option maxRecDepth 100000 in
set_option maxHeartbeats 4000000 in
theorem bytes_3e2t (s : Bs) (w : World) (hs : s.length ≤ SB) (a x : UInt8) (k : Nat) (hm : s.length = (k + 1) + 1) (hx : s[(k + 1)]? = some x) (h0 : s[0]? = some a) (ha : a.toNat = 2) (h3 : (bits BinOp.and IntKind.u8 (x.toNat : Int) 3 == 0) = true) : Calls Tryz.prog 66 #[.int .i64 3, .string (bs s)] w fun e w' => e = .returned (.nilIface) ∧ Below w.heap.size w w' := by
  have hSB := SB_eq
  have zs := bs_size s
  have q0 : ((bs s).toList == []) = false := by
    rw [bs_list]
    cases s with
    | nil => simp at h0
    | cons a r => rfl
  have g0 := bs_get s 0 a h0
  have g1 := bs_get s ((k + 1)) x hx
  rw [hm] at zs
  have hkb : (k + 1) ≤ 140737488351232 := by omega
  clear hx h0 hm hs
  generalize bs s = T at *
  have z0 : (0 : Int) < (k : Int) + 1 + 1 := by omega
  have z1 : (1 : Int) < (k : Int) + 1 + 1 := by omega
  have z2 : (0 : Int) ≤ (k : Int) + 1 := by omega
  have z3 : (k : Int) + 1 < (k : Int) + 1 + 1 := by omega
  have hw : ∀ _ : True, IntKind.i64.wrap ((k : Int) + 1) = (k : Int) + 1 := fun _ => by rw [IntKind.wrap_i64]; omega
  have hu : ∀ _ : True, IntKind.u8.wrap 3 = 3 := fun _ => by decide
  have HIS : Hid (∀ u, Calls Tryz.prog 34 #[.bool false, .int .i64 61] u fun e w' => e = .returned (.nilIface) ∧ w' = u) := Lib.hid fun u => is_any false 61 u
  go_enter Tryz.func66, Tryz.ntmps66
  go_upto_region 8 with fail
  go_quiet (fail)
  go_wp2_with (go_at_call 34; refine (HIS.out _).mono ?_; rintro e wi ⟨rfl, rfl⟩)
  go_ret
  exact ⟨rfl, below_drewN _ _⟩
set_option maxRecDepth 100000 in
set_option maxHeartbeats 4000000 in
theorem bytes_3e2f (s : Bs) (w : World) (hs : s.length ≤ SB) (a x : UInt8) (k : Nat) (hm : s.length = (k + 1) + 1) (hx : s[(k + 1)]? = some x) (h0 : s[0]? = some a) (ha : a.toNat = 2) (h3 : (bits BinOp.and IntKind.u8 (x.toNat : Int) 3 == 0) = false) : Calls Tryz.prog 66 #[.int .i64 3, .string (bs s)] w fun e w' => e = .returned (wrV 61) ∧ Below w.heap.size w w' := by
  have hSB := SB_eq
  have zs := bs_size s
  have q0 : ((bs s).toList == []) = false := by
    rw [bs_list]
    cases s with
    | nil => simp at h0
    | cons a r => rfl
  have g0 := bs_get s 0 a h0
  have g1 := bs_get s ((k + 1)) x hx
  rw [hm] at zs
  have hkb : (k + 1) ≤ 140737488351232 := by omega
  clear hx h0 hm hs
  generalize bs s = T at *
  have z0 : (0 : Int) < (k : Int) + 1 + 1 := by omega
  have z1 : (1 : Int) < (k : Int) + 1 + 1 := by omega
  have z2 : (0 : Int) ≤ (k : Int) + 1 := by omega
  have z3 : (k : Int) + 1 < (k : Int) + 1 + 1 := by omega
  have hw : ∀ _ : True, IntKind.i64.wrap ((k : Int) + 1) = (k : Int) + 1 := fun _ => by rw [IntKind.wrap_i64]; omega
  have hu : ∀ _ : True, IntKind.u8.wrap 3 = 3 := fun _ => by decide
  have HIS : Hid (∀ u, Calls Tryz.prog 34 #[.bool true, .int .i64 61] u fun e w' => e = .returned (wrV 61) ∧ w' = u) := Lib.hid fun u => is_any true 61 u
  go_enter Tryz.func66, Tryz.ntmps66
  go_upto_region 8 with fail
  go_quiet (fail)
  go_wp2_with (go_at_call 34; refine (HIS.out _).mono ?_; rintro e wi ⟨rfl, rfl⟩)
  go_ret
  exact ⟨rfl, below_drewN _ _⟩
set_option maxRecDepth 100000 in
set_option maxHeartbeats 4000000 in
theorem bytes_3e3t (s : Bs) (w : World) (hs : s.length ≤ SB) (a x : UInt8) (k : Nat) (hm : s.length = (k + 1) + 1) (hx : s[(k + 1)]? = some x) (h0 : s[0]? = some a) (ha : a.toNat = 3) (h3 : (bits BinOp.and IntKind.u8 (x.toNat : Int) 7 == 0) = true) : Calls Tryz.prog 66 #[.int .i64 3, .string (bs s)] w fun e w' => e = .returned (.nilIface) ∧ Below w.heap.size w w' := by
  have hSB := SB_eq
  have zs := bs_size s
  have q0 : ((bs s).toList == []) = false := by
    rw [bs_list]
    cases s with
    | nil => simp at h0
    | cons a r => rfl
  have g0 := bs_get s 0 a h0
  have g1 := bs_get s ((k + 1)) x hx
  rw [hm] at zs
  have hkb : (k + 1) ≤ 140737488351232 := by omega
  clear hx h0 hm hs
  generalize bs s = T at *
  have z0 : (0 : Int) < (k : Int) + 1 + 1 := by omega
  have z1 : (1 : Int) < (k : Int) + 1 + 1 := by omega
  have z2 : (0 : Int) ≤ (k : Int) + 1 := by omega
  have z3 : (k : Int) + 1 < (k : Int) + 1 + 1 := by omega
  have hw : ∀ _ : True, IntKind.i64.wrap ((k : Int) + 1) = (k : Int) + 1 := fun _ => by rw [IntKind.wrap_i64]; omega
  have hu : ∀ _ : True, IntKind.u8.wrap 7 = 7 := fun _ => by decide
  have HIS : Hid (∀ u, Calls Tryz.prog 34 #[.bool false, .int .i64 61] u fun e w' => e = .returned (.nilIface) ∧ w' = u) := Lib.hid fun u => is_any false 61 u
  go_enter Tryz.func66, Tryz.ntmps66
  go_upto_region 8 with fail
  go_quiet (fail)
  go_wp2_with (go_at_call 34; refine (HIS.out _).mono ?_; rintro e wi ⟨rfl, rfl⟩)
  go_ret
  exact ⟨rfl, below_drewN _ _⟩
set_option maxRecDepth 100000 in
set_option maxHeartbeats 4000000 in
theorem bytes_3e3f (s : Bs) (w : World) (hs : s.length ≤ SB) (a x : UInt8) (k : Nat) (hm : s.length = (k + 1) + 1) (hx : s[(k + 1)]? = some x) (h0 : s[0]? = some a) (ha : a.toNat = 3) (h3 : (bits BinOp.and IntKind.u8 (x.toNat : Int) 7 == 0) = false) : Calls Tryz.prog 66 #[.int .i64 3, .string (bs s)] w fun e w' => e = .returned (wrV 61) ∧ Below w.heap.size w w' := by
  have hSB := SB_eq
  have zs := bs_size s
  have q0 : ((bs s).toList == []) = false := by
    rw [bs_list]
    cases s with
    | nil => simp at h0
    | cons a r => rfl
  have g0 := bs_get s 0 a h0
  have g1 := bs_get s ((k + 1)) x hx
  rw [hm] at zs
  have hkb : (k + 1) ≤ 140737488351232 := by omega
  clear hx h0 hm hs
  generalize bs s = T at *
  have z0 : (0 : Int) < (k : Int) + 1 + 1 := by omega
  have z1 : (1 : Int) < (k : Int) + 1 + 1 := by omega
  have z2 : (0 : Int) ≤ (k : Int) + 1 := by omega
  have z3 : (k : Int) + 1 < (k : Int) + 1 + 1 := by omega
  have hw : ∀ _ : True, IntKind.i64.wrap ((k : Int) + 1) = (k : Int) + 1 := fun _ => by rw [IntKind.wrap_i64]; omega
  have hu : ∀ _ : True, IntKind.u8.wrap 7 = 7 := fun _ => by decide
  have HIS : Hid (∀ u, Calls Tryz.prog 34 #[.bool true, .int .i64 61] u fun e w' => e = .returned (wrV 61) ∧ w' = u) := Lib.hid fun u => is_any true 61 u
  go_enter Tryz.func66, Tryz.ntmps66
  go_upto_region 8 with fail
  go_quiet (fail)
  go_wp2_with (go_at_call 34; refine (HIS.out _).mono ?_; rintro e wi ⟨rfl, rfl⟩)
  go_ret
  exact ⟨rfl, below_drewN _ _⟩
set_option maxRecDepth 100000 in
set_option maxHeartbeats 4000000 in
theorem bytes_3e4t (s : Bs) (w : World) (hs : s.length ≤ SB) (a x : UInt8) (k : Nat) (hm : s.length = (k + 1) + 1) (hx : s[(k + 1)]? = some x) (h0 : s[0]? = some a) (ha : a.toNat = 4) (h3 : (bits BinOp.and IntKind.u8 (x.toNat : Int) 15 == 0) = true) : Calls Tryz.prog 66 #[.int .i64 3, .string (bs s)] w fun e w' => e = .returned (.nilIface) ∧ Below w.heap.size w w' := by
  have hSB := SB_eq
  have zs := bs_size s
  have q0 : ((bs s).toList == []) = false := by
    rw [bs_list]
    cases s with
    | nil => simp at h0
    | cons a r => rfl
  have g0 := bs_get s 0 a h0
  have g1 := bs_get s ((k + 1)) x hx
  rw [hm] at zs
  have hkb : (k + 1) ≤ 140737488351232 := by omega
  clear hx h0 hm hs
  generalize bs s = T at *
  have z0 : (0 : Int) < (k : Int) + 1 + 1 := by omega
  have z1 : (1 : Int) < (k : Int) + 1 + 1 := by omega
  have z2 : (0 : Int) ≤ (k : Int) + 1 := by omega
  have z3 : (k : Int) + 1 < (k : Int) + 1 + 1 := by omega
  have hw : ∀ _ : True, IntKind.i64.wrap ((k : Int) + 1) = (k : Int) + 1 := fun _ => by rw [IntKind.wrap_i64]; omega
  have hu : ∀ _ : True, IntKind.u8.wrap 15 = 15 := fun _ => by decide
  have HIS : Hid (∀ u, Calls Tryz.prog 34 #[.bool false, .int .i64 61] u fun e w' => e = .returned (.nilIface) ∧ w' = u) := Lib.hid fun u => is_any false 61 u
  go_enter Tryz.func66, Tryz.ntmps66
  go_upto_region 8 with fail
  go_quiet (fail)
  go_wp2_with (go_at_call 34; refine (HIS.out _).mono ?_; rintro e wi ⟨rfl, rfl⟩)
  go_ret
  exact ⟨rfl, below_drewN _ _⟩
set_option maxRecDepth 100000 in
set_option maxHeartbeats 4000000 in
theorem bytes_3e4f (s : Bs) (w : World) (hs : s.length ≤ SB) (a x : UInt8) (k : Nat) (hm : s.length = (k + 1) + 1) (hx : s[(k + 1)]? = some x) (h0 : s[0]? = some a) (ha : a.toNat = 4) (h3 : (bits BinOp.and IntKind.u8 (x.toNat : Int) 15 == 0) = false) : Calls Tryz.prog 66 #[.int .i64 3, .string (bs s)] w fun e w' => e = .returned (wrV 61) ∧ Below w.heap.size w w' := by
  have hSB := SB_eq
  have zs := bs_size s
  have q0 : ((bs s).toList == []) = false := by
    rw [bs_list]
    cases s with
    | nil => simp at h0
    | cons a r => rfl
  have g0 := bs_get s 0 a h0
  have g1 := bs_get s ((k + 1)) x hx
  rw [hm] at zs
  have hkb : (k + 1) ≤ 140737488351232 := by omega
  clear hx h0 hm hs
  generalize bs s = T at *
  have z0 : (0 : Int) < (k : Int) + 1 + 1 := by omega
  have z1 : (1 : Int) < (k : Int) + 1 + 1 := by omega
  have z2 : (0 : Int) ≤ (k : Int) + 1 := by omega
  have z3 : (k : Int) + 1 < (k : Int) + 1 + 1 := by omega
  have hw : ∀ _ : True, IntKind.i64.wrap ((k : Int) + 1) = (k : Int) + 1 := fun _ => by rw [IntKind.wrap_i64]; omega
  have hu : ∀ _ : True, IntKind.u8.wrap 15 = 15 := fun _ => by decide
  have HIS : Hid (∀ u, Calls Tryz.prog 34 #[.bool true, .int .i64 61] u fun e w' => e = .returned (wrV 61) ∧ w' = u) := Lib.hid fun u => is_any true 61 u
  go_enter Tryz.func66, Tryz.ntmps66
  go_upto_region 8 with fail
  go_quiet (fail)
  go_wp2_with (go_at_call 34; refine (HIS.out _).mono ?_; rintro e wi ⟨rfl, rfl⟩)
  go_ret
  exact ⟨rfl, below_drewN _ _⟩
set_option maxRecDepth 100000 in
set_option maxHeartbeats 4000000 in
theorem bytes_3e5t (s : Bs) (w : World) (hs : s.length ≤ SB) (a x : UInt8) (k : Nat) (hm : s.length = (k + 1) + 1) (hx : s[(k + 1)]? = some x) (h0 : s[0]? = some a) (ha : a.toNat = 5) (h3 : (bits BinOp.and IntKind.u8 (x.toNat : Int) 31 == 0) = true) : Calls Tryz.prog 66 #[.int .i64 3, .string (bs s)] w fun e w' => e = .returned (.nilIface) ∧ Below w.heap.size w w' := by
  have hSB := SB_eq
  have zs := bs_size s
  have q0 : ((bs s).toList == []) = false := by
    rw [bs_list]
    cases s with
    | nil => simp at h0
    | cons a r => rfl
  have g0 := bs_get s 0 a h0
  have g1 := bs_get s ((k + 1)) x hx
  rw [hm] at zs
  have hkb : (k + 1) ≤ 140737488351232 := by omega
  clear hx h0 hm hs
  generalize bs s = T at *
  have z0 : (0 : Int) < (k : Int) + 1 + 1 := by omega
  have z1 : (1 : Int) < (k : Int) + 1 + 1 := by omega
  have z2 : (0 : Int) ≤ (k : Int) + 1 := by omega
  have z3 : (k : Int) + 1 < (k : Int) + 1 + 1 := by omega
  have hw : ∀ _ : True, IntKind.i64.wrap ((k : Int) + 1) = (k : Int) + 1 := fun _ => by rw [IntKind.wrap_i64]; omega
  have hu : ∀ _ : True, IntKind.u8.wrap 31 = 31 := fun _ => by decide
  have HIS : Hid (∀ u, Calls Tryz.prog 34 #[.bool false, .int .i64 61] u fun e w' => e = .returned (.nilIface) ∧ w' = u) := Lib.hid fun u => is_any false 61 u
  go_enter Tryz.func66, Tryz.ntmps66
  go_upto_region 8 with fail
  go_quiet (fail)
  go_wp2_with (go_at_call 34; refine (HIS.out _).mono ?_; rintro e wi ⟨rfl, rfl⟩)
  go_ret
  exact ⟨rfl, below_drewN _ _⟩
set_option maxRecDepth 100000 in
set_option maxHeartbeats 4000000 in
theorem bytes_3e5f (s : Bs) (w : World) (hs : s.length ≤ SB) (a x : UInt8) (k : Nat) (hm : s.length = (k + 1) + 1) (hx : s[(k + 1)]? = some x) (h0 : s[0]? = some a) (ha : a.toNat = 5) (h3 : (bits BinOp.and IntKind.u8 (x.toNat : Int) 31 == 0) = false) : Calls Tryz.prog 66 #[.int .i64 3, .string (bs s)] w fun e w' => e = .returned (wrV 61) ∧ Below w.heap.size w w' := by
  have hSB := SB_eq
  have zs := bs_size s
  have q0 : ((bs s).toList == []) = false := by
    rw [bs_list]
    cases s with
    | nil => simp at h0
    | cons a r => rfl
  have g0 := bs_get s 0 a h0
  have g1 := bs_get s ((k + 1)) x hx
  rw [hm] at zs
  have hkb : (k + 1) ≤ 140737488351232 := by omega
  clear hx h0 hm hs
  generalize bs s = T at *
  have z0 : (0 : Int) < (k : Int) + 1 + 1 := by omega
  have z1 : (1 : Int) < (k : Int) + 1 + 1 := by omega
  have z2 : (0 : Int) ≤ (k : Int) + 1 := by omega
  have z3 : (k : Int) + 1 < (k : Int) + 1 + 1 := by omega
  have hw : ∀ _ : True, IntKind.i64.wrap ((k : Int) + 1) = (k : Int) + 1 := fun _ => by rw [IntKind.wrap_i64]; omega
  have hu : ∀ _ : True, IntKind.u8.wrap 31 = 31 := fun _ => by decide
  have HIS : Hid (∀ u, Calls Tryz.prog 34 #[.bool true, .int .i64 61] u fun e w' => e = .returned (wrV 61) ∧ w' = u) := Lib.hid fun u => is_any true 61 u
  go_enter Tryz.func66, Tryz.ntmps66
  go_upto_region 8 with fail
  go_quiet (fail)
  go_wp2_with (go_at_call 34; refine (HIS.out _).mono ?_; rintro e wi ⟨rfl, rfl⟩)
  go_ret
  exact ⟨rfl, below_drewN _ _⟩
set_option maxRecDepth 100000 in
set_option maxHeartbeats 4000000 in
theorem bytes_3e6t (s : Bs) (w : World) (hs : s.length ≤ SB) (a x : UInt8) (k : Nat) (hm : s.length = (k + 1) + 1) (hx : s[(k + 1)]? = some x) (h0 : s[0]? = some a) (ha : a.toNat = 6) (h3 : (bits BinOp.and IntKind.u8 (x.toNat : Int) 63 == 0) = true) : Calls Tryz.prog 66 #[.int .i64 3, .string (bs s)] w fun e w' => e = .returned (.nilIface) ∧ Below w.heap.size w w' := by
  have hSB := SB_eq
  have zs := bs_size s
  have q0 : ((bs s).toList == []) = false := by
    rw [bs_list]
    cases s with
    | nil => simp at h0
    | cons a r => rfl
  have g0 := bs_get s 0 a h0
  have g1 := bs_get s ((k + 1)) x hx
  rw [hm] at zs
  have hkb : (k + 1) ≤ 140737488351232 := by omega
  clear hx h0 hm hs
  generalize bs s = T at *
  have z0 : (0 : Int) < (k : Int) + 1 + 1 := by omega
  have z1 : (1 : Int) < (k : Int) + 1 + 1 := by omega
  have z2 : (0 : Int) ≤ (k : Int) + 1 := by omega
  have z3 : (k : Int) + 1 < (k : Int) + 1 + 1 := by omega
  have hw : ∀ _ : True, IntKind.i64.wrap ((k : Int) + 1) = (k : Int) + 1 := fun _ => by rw [IntKind.wrap_i64]; omega
  have hu : ∀ _ : True, IntKind.u8.wrap 63 = 63 := fun _ => by decide
  have HIS : Hid (∀ u, Calls Tryz.prog 34 #[.bool false, .int .i64 61] u fun e w' => e = .returned (.nilIface) ∧ w' = u) := Lib.hid fun u => is_any false 61 u
  go_enter Tryz.func66, Tryz.ntmps66
  go_upto_region 8 with fail
  go_quiet (fail)
  go_wp2_with (go_at_call 34; refine (HIS.out _).mono ?_; rintro e wi ⟨rfl, rfl⟩)
  go_ret
  exact ⟨rfl, below_drewN _ _⟩
set_option maxRecDepth 100000 in
set_option maxHeartbeats 4000000 in
theorem bytes_3e6f (s : Bs) (w : World) (hs : s.length ≤ SB) (a x : UInt8) (k : Nat) (hm : s.length = (k + 1) + 1) (hx : s[(k + 1)]? = some x) (h0 : s[0]? = some a) (ha : a.toNat = 6) (h3 : (bits BinOp.and IntKind.u8 (x.toNat : Int) 63 == 0) = false) : Calls Tryz.prog 66 #[.int .i64 3, .string (bs s)] w fun e w' => e = .returned (wrV 61) ∧ Below w.heap.size w w' := by
  have hSB := SB_eq
  have zs := bs_size s
  have q0 : ((bs s).toList == []) = false := by
    rw [bs_list]
    cases s with
    | nil => simp at h0
    | cons a r => rfl
  have g0 := bs_get s 0 a h0
  have g1 := bs_get s ((k + 1)) x hx
  rw [hm] at zs
  have hkb : (k + 1) ≤ 140737488351232 := by omega
  clear hx h0 hm hs
  generalize bs s = T at *
  have z0 : (0 : Int) < (k : Int) + 1 + 1 := by omega
  have z1 : (1 : Int) < (k : Int) + 1 + 1 := by omega
  have z2 : (0 : Int) ≤ (k : Int) + 1 := by omega
  have z3 : (k : Int) + 1 < (k : Int) + 1 + 1 := by omega
  have hw : ∀ _ : True, IntKind.i64.wrap ((k : Int) + 1) = (k : Int) + 1 := fun _ => by rw [IntKind.wrap_i64]; omega
  have hu : ∀ _ : True, IntKind.u8.wrap 63 = 63 := fun _ => by decide
  have HIS : Hid (∀ u, Calls Tryz.prog 34 #[.bool true, .int .i64 61] u fun e w' => e = .returned (wrV 61) ∧ w' = u) := Lib.hid fun u => is_any true 61 u
  go_enter Tryz.func66, Tryz.ntmps66
  go_upto_region 8 with fail
  go_quiet (fail)
  go_wp2_with (go_at_call 34; refine (HIS.out _).mono ?_; rintro e wi ⟨rfl, rfl⟩)
  go_ret
  exact ⟨rfl, below_drewN _ _⟩
set_option maxRecDepth 100000 in
set_option maxHeartbeats 4000000 in
theorem bytes_3e7t (s : Bs) (w : World) (hs : s.length ≤ SB) (a x : UInt8) (k : Nat) (hm : s.length = (k + 1) + 1) (hx : s[(k + 1)]? = some x) (h0 : s[0]? = some a) (ha : a.toNat = 7) (h3 : (bits BinOp.and IntKind.u8 (x.toNat : Int) 127 == 0) = true) : Calls Tryz.prog 66 #[.int .i64 3, .string (bs s)] w fun e w' => e = .returned (.nilIface) ∧ Below w.heap.size w w' := by
  have hSB := SB_eq
  have zs := bs_size s
  have q0 : ((bs s).toList == []) = false := by
    rw [bs_list]
    cases s with
    | nil => simp at h0
    | cons a r => rfl
  have g0 := bs_get s 0 a h0
  have g1 := bs_get s ((k + 1)) x hx
  rw [hm] at zs
  have hkb : (k + 1) ≤ 140737488351232 := by omega
  clear hx h0 hm hs
  generalize bs s = T at *
  have z0 : (0 : Int) < (k : Int) + 1 + 1 := by omega
  have z1 : (1 : Int) < (k : Int) + 1 + 1 := by omega
  have z2 : (0 : Int) ≤ (k : Int) + 1 := by omega
  have z3 : (k : Int) + 1 < (k : Int) + 1 + 1 := by omega
  have hw : ∀ _ : True, IntKind.i64.wrap ((k : Int) + 1) = (k : Int) + 1 := fun _ => by rw [IntKind.wrap_i64]; omega
  have hu : ∀ _ : True, IntKind.u8.wrap 127 = 127 := fun _ => by decide
  have HIS : Hid (∀ u, Calls Tryz.prog 34 #[.bool false, .int .i64 61] u fun e w' => e = .returned (.nilIface) ∧ w' = u) := Lib.hid fun u => is_any false 61 u
  go_enter Tryz.func66, Tryz.ntmps66
  go_upto_region 8 with fail
  go_quiet (fail)
  go_wp2_with (go_at_call 34; refine (HIS.out _).mono ?_; rintro e wi ⟨rfl, rfl⟩)
  go_ret
  exact ⟨rfl, below_drewN _ _⟩
set_option maxRecDepth 100000 in
set_option maxHeartbeats 4000000 in
theorem bytes_3e7f (s : Bs) (w : World) (hs : s.length ≤ SB) (a x : UInt8) (k : Nat) (hm : s.length = (k + 1) + 1) (hx : s[(k + 1)]? = some x) (h0 : s[0]? = some a) (ha : a.toNat = 7) (h3 : (bits BinOp.and IntKind.u8 (x.toNat : Int) 127 == 0) = false) : Calls Tryz.prog 66 #[.int .i64 3, .string (bs s)] w fun e w' => e = .returned (wrV 61) ∧ Below w.heap.size w w' := by
  have hSB := SB_eq
  have zs := bs_size s
  have q0 : ((bs s).toList == []) = false := by
    rw [bs_list]
    cases s with
    | nil => simp at h0
    | cons a r => rfl
  have g0 := bs_get s 0 a h0
  have g1 := bs_get s ((k + 1)) x hx
  rw [hm] at zs
  have hkb : (k + 1) ≤ 140737488351232 := by omega
  clear hx h0 hm hs
  generalize bs s = T at *
  have z0 : (0 : Int) < (k : Int) + 1 + 1 := by omega
  have z1 : (1 : Int) < (k : Int) + 1 + 1 := by omega
  have z2 : (0 : Int) ≤ (k : Int) + 1 := by omega
  have z3 : (k : Int) + 1 < (k : Int) + 1 + 1 := by omega
  have hw : ∀ _ : True, IntKind.i64.wrap ((k : Int) + 1) = (k : Int) + 1 := fun _ => by rw [IntKind.wrap_i64]; omega
  have hu : ∀ _ : True, IntKind.u8.wrap 127 = 127 := fun _ => by decide
  have HIS : Hid (∀ u, Calls Tryz.prog 34 #[.bool true, .int .i64 61] u fun e w' => e = .returned (wrV 61) ∧ w' = u) := Lib.hid fun u => is_any true 61 u
  go_enter Tryz.func66, Tryz.ntmps66
  go_upto_region 8 with fail
  go_quiet (fail)
  go_wp2_with (go_at_call 34; refine (HIS.out _).mono ?_; rintro e wi ⟨rfl, rfl⟩)
  go_ret
  exact ⟨rfl, below_drewN _ _⟩
set_option maxRecDepth 100000 in
set_option maxHeartbeats 4000000 in
theorem bytes_4 (s : Bs) (w : World) (_hs : s.length ≤ SB) : Calls Tryz.prog 66 #[.int .i64 4, .string (bs s)] w fun e w' => e = .returned (.nilIface) ∧ Below w.heap.size w w' := by
  have hSB := SB_eq
  have zs := bs_size s
  have HIS : Hid (∀ u, Calls Tryz.prog 34 #[.bool false, .int .i64 61] u fun e w' => e = .returned (.nilIface) ∧ w' = u) := Lib.hid fun u => is_any false 61 u
  go_enter Tryz.func66, Tryz.ntmps66
  go_wp2_with (go_at_call 34; refine (HIS.out _).mono ?_; rintro e wi ⟨rfl, rfl⟩)
  go_ret
  exact ⟨rfl, Below.refl _ _⟩
set_option maxRecDepth 100000 in
set_option maxHeartbeats 4000000 in
theorem bytes_5t (s : Bs) (w : World) (_hs : s.length ≤ SB) (h : ((bs s).toList == []) = true) : Calls Tryz.prog 66 #[.int .i64 5, .string (bs s)] w fun e w' => e = .returned (.nilIface) ∧ Below w.heap.size w w' := by
  have hSB := SB_eq
  have zs := bs_size s
  generalize bs s = T at *
  have HIS : Hid (∀ u, Calls Tryz.prog 34 #[.bool false, .int .i64 61] u fun e w' => e = .returned (.nilIface) ∧ w' = u) := Lib.hid fun u => is_any false 61 u
  go_enter Tryz.func66, Tryz.ntmps66
  go_wp2_with (go_at_call 34; refine (HIS.out _).mono ?_; rintro e wi ⟨rfl, rfl⟩)
  go_ret
  exact ⟨rfl, Below.refl _ _⟩
set_option maxRecDepth 100000 in
set_option maxHeartbeats 4000000 in
theorem bytes_5f (s : Bs) (w : World) (_hs : s.length ≤ SB) (h : ((bs s).toList == []) = false) : Calls Tryz.prog 66 #[.int .i64 5, .string (bs s)] w fun e w' => e = .returned (wrV 61) ∧ Below w.heap.size w w' := by
  have hSB := SB_eq
  have zs := bs_size s
  generalize bs s = T at *
  have HIS : Hid (∀ u, Calls Tryz.prog 34 #[.bool true, .int .i64 61] u fun e w' => e = .returned (wrV 61) ∧ w' = u) := Lib.hid fun u => is_any true 61 u
  go_enter Tryz.func66, Tryz.ntmps66
  go_wp2_with (go_at_call 34; refine (HIS.out _).mono ?_; rintro e wi ⟨rfl, rfl⟩)
  go_ret
  exact ⟨rfl, Below.refl _ _⟩
set_option maxRecDepth 100000 in
set_option maxHeartbeats 4000000 in
theorem bytes_6t (s : Bs) (w : World) (_hs : s.length ≤ SB) (hc : Calls Tryz.prog 40 #[.string (bs s)] w fun e w' => (∃ v, e = .returned (.tuple #[v, .bool true])) ∧ Below w.heap.size w w') : Calls Tryz.prog 66 #[.int .i64 6, .string (bs s)] w fun e w' => e = .returned (.nilIface) ∧ Below w.heap.size w w' := by
  have hSB := SB_eq
  have zs := bs_size s
  have HC := Lib.hid hc
  clear hc
  have HIS : Hid (∀ u, Calls Tryz.prog 34 #[.bool false, .int .i64 61] u fun e w' => e = .returned (.nilIface) ∧ w' = u) := Lib.hid fun u => is_any false 61 u
  go_enter Tryz.func66, Tryz.ntmps66
  go_wp2_with (first | (go_at_call 34; refine (HIS.out _).mono ?_; rintro e wi ⟨rfl, rfl⟩) | (go_at_call 40; refine HC.out.mono ?_; rintro e wc ⟨⟨v, rfl⟩, hbc⟩))
  go_ret
  exact ⟨rfl, hbc⟩
set_option maxRecDepth 100000 in
set_option maxHeartbeats 4000000 in
theorem bytes_12t (s : Bs) (w : World) (_hs : s.length ≤ SB) (hc : Calls Tryz.prog 87 #[.string (bs s)] w fun e w' => e = .returned (.bool true) ∧ Below w.heap.size w w') : Calls Tryz.prog 66 #[.int .i64 12, .string (bs s)] w fun e w' => e = .returned (.nilIface) ∧ Below w.heap.size w w' := by
  have hSB := SB_eq
  have zs := bs_size s
  have HC := Lib.hid hc
  clear hc
  have HIS : Hid (∀ u, Calls Tryz.prog 34 #[.bool false, .int .i64 61] u fun e w' => e = .returned (.nilIface) ∧ w' = u) := Lib.hid fun u => is_any false 61 u
  go_enter Tryz.func66, Tryz.ntmps66
  go_wp2_with (first | (go_at_call 34; refine (HIS.out _).mono ?_; rintro e wi ⟨rfl, rfl⟩) | (go_at_call 87; refine HC.out.mono ?_; rintro e wc ⟨rfl, hbc⟩))
  go_ret
  exact ⟨rfl, hbc⟩
set_option maxRecDepth 100000 in
set_option maxHeartbeats 4000000 in
theorem bytes_23t (s : Bs) (w : World) (_hs : s.length ≤ SB) (hc : Calls Tryz.prog 51 #[.int .i64 23, .string (bs s)] w fun e w' => (∃ n, e = .returned (.tuple #[.int .i64 n, .bool true])) ∧ Below w.heap.size w w') : Calls Tryz.prog 66 #[.int .i64 23, .string (bs s)] w fun e w' => e = .returned (.nilIface) ∧ Below w.heap.size w w' := by
  have hSB := SB_eq
  have zs := bs_size s
  have HC := Lib.hid hc
  clear hc
  have HIS : Hid (∀ u, Calls Tryz.prog 34 #[.bool false, .int .i64 61] u fun e w' => e = .returned (.nilIface) ∧ w' = u) := Lib.hid fun u => is_any false 61 u
  go_enter Tryz.func66, Tryz.ntmps66
  go_wp2_with (first | (go_at_call 34; refine (HIS.out _).mono ?_; rintro e wi ⟨rfl, rfl⟩) | (go_at_call 51; refine HC.out.mono ?_; rintro e wc ⟨⟨v, rfl⟩, hbc⟩))
  go_ret
  exact ⟨rfl, hbc⟩
set_option maxRecDepth 100000 in
set_option maxHeartbeats 4000000 in
theorem bytes_24t (s : Bs) (w : World) (_hs : s.length ≤ SB) (hc : Calls Tryz.prog 51 #[.int .i64 24, .string (bs s)] w fun e w' => (∃ n, e = .returned (.tuple #[.int .i64 n, .bool true])) ∧ Below w.heap.size w w') : Calls Tryz.prog 66 #[.int .i64 24, .string (bs s)] w fun e w' => e = .returned (.nilIface) ∧ Below w.heap.size w w' := by
  have hSB := SB_eq
  have zs := bs_size s
  have HC := Lib.hid hc
  clear hc
  have HIS : Hid (∀ u, Calls Tryz.prog 34 #[.bool false, .int .i64 61] u fun e w' => e = .returned (.nilIface) ∧ w' = u) := Lib.hid fun u => is_any false 61 u
  go_enter Tryz.func66, Tryz.ntmps66
  go_wp2_with (first | (go_at_call 34; refine (HIS.out _).mono ?_; rintro e wi ⟨rfl, rfl⟩) | (go_at_call 51; refine HC.out.mono ?_; rintro e wc ⟨⟨v, rfl⟩, hbc⟩))
  go_ret
  exact ⟨rfl, hbc⟩
set_option maxRecDepth 100000 in
set_option maxHeartbeats 4000000 in
theorem bytes_6f (s : Bs) (w : World) (_hs : s.length ≤ SB) (hc : Calls Tryz.prog 40 #[.string (bs s)] w fun e w' => (∃ v, e = .returned (.tuple #[v, .bool false])) ∧ Below w.heap.size w w') : Calls Tryz.prog 66 #[.int .i64 6, .string (bs s)] w fun e w' => e = .returned (wrV 61) ∧ Below w.heap.size w w' := by
  have hSB := SB_eq
  have zs := bs_size s
  have HC := Lib.hid hc
  clear hc
  have HIS : Hid (∀ u, Calls Tryz.prog 34 #[.bool true, .int .i64 61] u fun e w' => e = .returned (wrV 61) ∧ w' = u) := Lib.hid fun u => is_any true 61 u
  go_enter Tryz.func66, Tryz.ntmps66
  go_wp2_with (first | (go_at_call 34; refine (HIS.out _).mono ?_; rintro e wi ⟨rfl, rfl⟩) | (go_at_call 40; refine HC.out.mono ?_; rintro e wc ⟨⟨v, rfl⟩, hbc⟩))
  go_ret
  exact ⟨rfl, hbc⟩
set_option maxRecDepth 100000 in
set_option maxHeartbeats 4000000 in
theorem bytes_12f (s : Bs) (w : World) (_hs : s.length ≤ SB) (hc : Calls Tryz.prog 87 #[.string (bs s)] w fun e w' => e = .returned (.bool false) ∧ Below w.heap.size w w') : Calls Tryz.prog 66 #[.int .i64 12, .string (bs s)] w fun e w' => e = .returned (wrV 61) ∧ Below w.heap.size w w' := by
  have hSB := SB_eq
  have zs := bs_size s
  have HC := Lib.hid hc
  clear hc
  have HIS : Hid (∀ u, Calls Tryz.prog 34 #[.bool true, .int .i64 61] u fun e w' => e = .returned (wrV 61) ∧ w' = u) := Lib.hid fun u => is_any true 61 u
  go_enter Tryz.func66, Tryz.ntmps66
  go_wp2_with (first | (go_at_call 34; refine (HIS.out _).mono ?_; rintro e wi ⟨rfl, rfl⟩) | (go_at_call 87; refine HC.out.mono ?_; rintro e wc ⟨rfl, hbc⟩))
  go_ret
  exact ⟨rfl, hbc⟩
set_option maxRecDepth 100000 in
set_option maxHeartbeats 4000000 in
theorem bytes_23f (s : Bs) (w : World) (_hs : s.length ≤ SB) (hc : Calls Tryz.prog 51 #[.int .i64 23, .string (bs s)] w fun e w' => (∃ n, e = .returned (.tuple #[.int .i64 n, .bool false])) ∧ Below w.heap.size w w') : Calls Tryz.prog 66 #[.int .i64 23, .string (bs s)] w fun e w' => e = .returned (wrV 61) ∧ Below w.heap.size w w' := by
  have hSB := SB_eq
  have zs := bs_size s
  have HC := Lib.hid hc
  clear hc
  have HIS : Hid (∀ u, Calls Tryz.prog 34 #[.bool true, .int .i64 61] u fun e w' => e = .returned (wrV 61) ∧ w' = u) := Lib.hid fun u => is_any true 61 u
  go_enter Tryz.func66, Tryz.ntmps66
  go_wp2_with (first | (go_at_call 34; refine (HIS.out _).mono ?_; rintro e wi ⟨rfl, rfl⟩) | (go_at_call 51; refine HC.out.mono ?_; rintro e wc ⟨⟨v, rfl⟩, hbc⟩))
  go_ret
  exact ⟨rfl, hbc⟩
set_option maxRecDepth 100000 in
set_option maxHeartbeats 4000000 in
theorem bytes_24f (s : Bs) (w : World) (_hs : s.length ≤ SB) (hc : Calls Tryz.prog 51 #[.int .i64 24, .string (bs s)] w fun e w' => (∃ n, e = .returned (.tuple #[.int .i64 n, .bool false])) ∧ Below w.heap.size w w') : Calls Tryz.prog 66 #[.int .i64 24, .string (bs s)] w fun e w' => e = .returned (wrV 61) ∧ Below w.heap.size w w' := by
  have hSB := SB_eq
  have zs := bs_size s
  have HC := Lib.hid hc
  clear hc
  have HIS : Hid (∀ u, Calls Tryz.prog 34 #[.bool true, .int .i64 61] u fun e w' => e = .returned (wrV 61) ∧ w' = u) := Lib.hid fun u => is_any true 61 u
  go_enter Tryz.func66, Tryz.ntmps66
  go_wp2_with (first | (go_at_call 34; refine (HIS.out _).mono ?_; rintro e wi ⟨rfl, rfl⟩) | (go_at_call 51; refine HC.out.mono ?_; rintro e wc ⟨⟨v, rfl⟩, hbc⟩))
  go_ret
  exact ⟨rfl, hbc⟩
end Go.Proofs.YtebhiplcoioenaaGreatDoor
/- der.bytes: the walk, the tags with loops; the whole. -/
namespace Go.Proofs.YtebhiplcoioenaaGreatDoor
open Go.RowKit

def ltC (c : UInt8) : Bool := decide (c.toNat < 128)
theorem all_take {s : Bs} {i : Nat} {x : UInt8} (hx : s[i]? = some x) (f : UInt8 → Bool) : (s.take (i + 1)).all f = ((s.take i).all f && f x) := by
  obtain ⟨hi, e⟩ := List.getElem?_eq_some_iff.1 hx
  rw [List.take_succ_eq_append_getElem hi, List.all_append, e, List.all_cons, List.all_nil, Bool.and_true]
set_option maxRecDepth 100000 in
set_option maxHeartbeats 8000000 in
theorem bytes_22 (s : Bs) (w : World) (hs : s.length ≤ SB) : Calls Tryz.prog 66 #[.int .i64 22, .string (bs s)] w fun e w' => e = .returned (fineV (s.all ltC)) ∧ Below w.heap.size w w' := by
  have hSB := SB_eq
  have zs := bs_size s
  have HIT : Hid (∀ u, Calls Tryz.prog 34 #[.bool true, .int .i64 61] u fun e w' => e = .returned (wrV 61) ∧ w' = u) := Lib.hid fun u => is_any true 61 u
  have HIF : Hid (∀ u, Calls Tryz.prog 34 #[.bool false, .int .i64 61] u fun e w' => e = .returned .nilIface ∧ w' = u) := Lib.hid fun u => is_any false 61 u
  go_enter Tryz.func66, Tryz.ntmps66
  go_wp2
  go_loopg [5, 7, 114] s.length (fun gg s5 _ s9 wr => ∃ (i : Nat) (B : Bool), i ≤ s.length ∧ gg = s.length - i ∧ s5 = .bool B ∧ s9 = .int .i64 i ∧ Aside (B = (s.take i).all ltC) ∧ wr = w)
  case atStart => exact ⟨0, true, by omega, rfl, rfl, rfl, rfl, rfl⟩
  case round =>
    obtain ⟨i, B, hi, rfl, rfl, rfl, HA, rfl⟩ := hrel
    by_cases hlt : i < s.length
    · have hltz : (i : Int) < (s.length : Int) := by omega
      obtain ⟨x, hx⟩ : ∃ x, s[i]? = some x := ⟨s[i], List.getElem?_eq_getElem hlt⟩
      have hg := bs_get s i x hx
      have hst := all_take hx ltC
      rw [← HA.out] at hst
      cases B with
      | false =>
        have HR : Hid (false = (s.take (i + 1)).all ltC) := Lib.hid (by rw [hst]; rfl)
        clear hst hx
        go_wp2
        go_roundg (s.length - (i + 1))
        case measure => omega
        case rel => exact ⟨i + 1, false, by omega, rfl, rfl, by go_num, HR.out, rfl⟩
      | true =>
        by_cases hc : x.toNat < 128
        · have hcz : (x.toNat : Int) < 128 := by omega
          have HR : Hid (true = (s.take (i + 1)).all ltC) := Lib.hid (by rw [hst]; unfold ltC; rw [decide_eq_true hc]; rfl)
          clear hst hx
          go_wp2
          go_roundg (s.length - (i + 1))
          case measure => omega
          case rel => exact ⟨i + 1, true, by omega, rfl, rfl, by go_num, HR.out, rfl⟩
        · have hcz : ¬ (x.toNat : Int) < 128 := by omega
          have HR : Hid (false = (s.take (i + 1)).all ltC) := Lib.hid (by rw [hst]; unfold ltC; rw [decide_eq_false hc]; rfl)
          clear hst hx
          go_wp2
          go_roundg (s.length - (i + 1))
          case measure => omega
          case rel => exact ⟨i + 1, false, by omega, rfl, rfl, by go_num, HR.out, rfl⟩
    · have hltz : ¬ (i : Int) < (s.length : Int) := by omega
      have HR : Hid (s.all ltC = B) := Lib.hid (by rw [HA.out, List.take_of_length_le (by omega)])
      cases B with
      | true =>
        go_wp2_with (go_at_call 34; refine (HIF.out _).mono ?_; rintro e w2 ⟨rfl, rfl⟩)
        go_ret
        rw [HR.out]
        exact ⟨rfl, Below.refl _ _⟩
      | false =>
        go_wp2_with (go_at_call 34; refine (HIT.out _).mono ?_; rintro e w2 ⟨rfl, rfl⟩)
        go_ret
        rw [HR.out]
        exact ⟨rfl, Below.refl _ _⟩
def setP : Bs := [65, 66, 67, 68, 69, 70, 71, 72, 73, 74, 75, 76, 77, 78, 79, 80, 81, 82, 83, 84, 85, 86, 87, 88, 89, 90, 97, 98, 99, 100, 101, 102, 103, 104, 105, 106, 107, 108, 109, 110, 111, 112, 113, 114, 115, 116, 117, 118, 119, 120, 121, 122, 48, 49, 50, 51, 52, 53, 54, 55, 56, 57, 32, 39, 40, 41, 43, 44, 45, 46, 47, 58, 61, 63]
theorem set_print (c : UInt8) : setP.contains c = printC c := every_byte (P := fun c => setP.contains c = printC c) (by decide +kernel) c
theorem print_lt (c : UInt8) : printC c = true → ltC c = true := every_byte (P := fun c => printC c = true → ltC c = true) (by decide +kernel) c
set_option maxRecDepth 100000 in
set_option maxHeartbeats 8000000 in
theorem bytes_19 (s : Bs) (w : World) (hs : s.length ≤ SB) : Calls Tryz.prog 66 #[.int .i64 19, .string (bs s)] w fun e w' => e = .returned (fineV (s.all printC)) ∧ Below w.heap.size w w' := by
  have hSB := SB_eq
  have zs := bs_size s
  have HIT : Hid (∀ u, Calls Tryz.prog 34 #[.bool true, .int .i64 61] u fun e w' => e = .returned (wrV 61) ∧ w' = u) := Lib.hid fun u => is_any true 61 u
  have HIF : Hid (∀ u, Calls Tryz.prog 34 #[.bool false, .int .i64 61] u fun e w' => e = .returned .nilIface ∧ w' = u) := Lib.hid fun u => is_any false 61 u
  obtain ⟨F0, hF0⟩ : ∃ F0, F0 = s.all printC := ⟨_, rfl⟩
  have HF : Hid (F0 = s.all printC) := Lib.hid hF0
  have HTR : Hid (Calls Tryz.prog 88 #[.string (bs s), .string (bs setP)] w fun e w' => ∃ T, e = .returned (.string T) ∧ (T.toList == []) = F0 ∧ Below w.heap.size w w') := Lib.hid ((Trim_any s setP w hs (by decide) (by decide) (by decide)).mono fun e w' ⟨t, h1, h2, h3⟩ => ⟨bs t, h1, by
    rw [bs_list, hF0]
    have e : s.all setP.contains = s.all printC := congrArg s.all (funext set_print)
    rw [e] at h2
    cases hq : s.all printC with
    | true => rw [h2.2 hq]; rfl
    | false =>
      cases t with
      | nil => rw [h2.1 rfl] at hq; cases hq
      | cons a r => rfl, h3⟩)
  clear hF0
  go_enter Tryz.func66, Tryz.ntmps66
  go_wp2_with (go_at_call 88; refine HTR.out.mono ?_; rintro e w1 ⟨T, rfl, hT, hb1⟩; have HB := Lib.hid hb1; clear hb1)
  go_loopg [5, 6, 99] s.length (fun gg s5 _ s9 wr => ∃ (i : Nat) (B : Bool), i ≤ s.length ∧ gg = s.length - i ∧ s5 = .bool B ∧ s9 = .int .i64 i ∧ Aside (B = (F0 && (s.take i).all ltC)) ∧ wr = w1)
  case atStart => exact ⟨0, F0, by omega, rfl, by first | rfl | rw [hT], rfl, (show F0 = (F0 && true) by rw [Bool.and_true]), rfl⟩
  case round =>
    obtain ⟨i, B, hi, rfl, rfl, rfl, HA, rfl⟩ := hrel
    clear hT
    by_cases hlt : i < s.length
    · have hltz : (i : Int) < (s.length : Int) := by omega
      obtain ⟨x, hx⟩ : ∃ x, s[i]? = some x := ⟨s[i], List.getElem?_eq_getElem hlt⟩
      have hg := bs_get s i x hx
      have hst : (F0 && (s.take (i + 1)).all ltC) = (B && ltC x) := by rw [all_take hx ltC, ← Bool.and_assoc, ← HA.out]
      cases B with
      | false =>
        have HR : Hid (false = (F0 && (s.take (i + 1)).all ltC)) := Lib.hid (by rw [hst]; rfl)
        clear hst hx
        go_wp2
        go_roundg (s.length - (i + 1))
        case measure => omega
        case rel => exact ⟨i + 1, false, by omega, rfl, rfl, by go_num, HR.out, rfl⟩
      | true =>
        by_cases hc : x.toNat < 128
        · have hcz : (x.toNat : Int) < 128 := by omega
          have HR : Hid (true = (F0 && (s.take (i + 1)).all ltC)) := Lib.hid (by rw [hst]; unfold ltC; rw [decide_eq_true hc]; rfl)
          clear hst hx
          go_wp2
          go_roundg (s.length - (i + 1))
          case measure => omega
          case rel => exact ⟨i + 1, true, by omega, rfl, rfl, by go_num, HR.out, rfl⟩
        · have hcz : ¬ (x.toNat : Int) < 128 := by omega
          have HR : Hid (false = (F0 && (s.take (i + 1)).all ltC)) := Lib.hid (by rw [hst]; unfold ltC; rw [decide_eq_false hc]; rfl)
          clear hst hx
          go_wp2
          go_roundg (s.length - (i + 1))
          case measure => omega
          case rel => exact ⟨i + 1, false, by omega, rfl, rfl, by go_num, HR.out, rfl⟩
    · have hltz : ¬ (i : Int) < (s.length : Int) := by omega
      have HR : Hid (s.all printC = B) := Lib.hid (by
        rw [HA.out, List.take_of_length_le (by omega), HF.out]
        cases hq : s.all printC with
        | false => rfl
        | true =>
          rw [Bool.true_and]
          exact (List.all_eq_true.2 fun c hc => print_lt c (List.all_eq_true.1 hq c hc)).symm)
      cases B with
      | true =>
        go_wp2_with (go_at_call 34; refine (HIF.out _).mono ?_; rintro e w2 ⟨rfl, rfl⟩)
        go_ret
        rw [HR.out]
        exact ⟨rfl, HB.out⟩
      | false =>
        go_wp2_with (go_at_call 34; refine (HIT.out _).mono ?_; rintro e w2 ⟨rfl, rfl⟩)
        go_ret
        rw [HR.out]
        exact ⟨rfl, HB.out⟩
theorem fineV_t {b : Bool} (h : b = true) : fineV b = .nilIface := by rw [h]; rfl
theorem fineV_f {b : Bool} (h : b = false) : fineV b = wrV 61 := by rw [h]; rfl
theorem and_tab : ∀ x : UInt8, bits BinOp.and IntKind.u8 (x.toNat : Int) 1 = ((x.toNat % 2 : Nat) : Int) ∧ bits BinOp.and IntKind.u8 (x.toNat : Int) 3 = ((x.toNat % 4 : Nat) : Int) ∧ bits BinOp.and IntKind.u8 (x.toNat : Int) 7 = ((x.toNat % 8 : Nat) : Int) ∧
    bits BinOp.and IntKind.u8 (x.toNat : Int) 15 = ((x.toNat % 16 : Nat) : Int) ∧ bits BinOp.and IntKind.u8 (x.toNat : Int) 31 = ((x.toNat % 32 : Nat) : Int) ∧ bits BinOp.and IntKind.u8 (x.toNat : Int) 63 = ((x.toNat % 64 : Nat) : Int) ∧ bits BinOp.and IntKind.u8 (x.toNat : Int) 127 = ((x.toNat % 128 : Nat) : Int) :=
  fun x => every_byte (P := fun x => bits BinOp.and IntKind.u8 (x.toNat : Int) 1 = ((x.toNat % 2 : Nat) : Int) ∧ bits BinOp.and IntKind.u8 (x.toNat : Int) 3 = ((x.toNat % 4 : Nat) : Int) ∧ bits BinOp.and IntKind.u8 (x.toNat : Int) 7 = ((x.toNat % 8 : Nat) : Int) ∧
    bits BinOp.and IntKind.u8 (x.toNat : Int) 15 = ((x.toNat % 16 : Nat) : Int) ∧ bits BinOp.and IntKind.u8 (x.toNat : Int) 31 = ((x.toNat % 32 : Nat) : Int) ∧ bits BinOp.and IntKind.u8 (x.toNat : Int) 63 = ((x.toNat % 64 : Nat) : Int) ∧ bits BinOp.and IntKind.u8 (x.toNat : Int) 127 = ((x.toNat % 128 : Nat) : Int)) (by decide +kernel) x
theorem last_get {a : UInt8} {r : Bs} : (a :: r)[r.length]? = some (match r.getLast? with | some x => x | none => a) := by
  cases hr : r.getLast? with
  | none =>
    have : r = [] := by simpa using hr
    subst this; rfl
  | some x =>
    have hne : r ≠ [] := by rintro rfl; cases hr
    have hl := List.length_pos_iff.2 hne
    obtain ⟨m, hm⟩ : ∃ m, r.length = m + 1 := ⟨r.length - 1, by omega⟩
    rw [hm, List.getElem?_cons_succ]
    rw [List.getLast?_eq_getElem?, hm, Nat.add_sub_cancel] at hr
    exact hr
set_option maxHeartbeats 2000000 in
theorem bytes_3 (s : Bs) (w : World) (hs : s.length ≤ SB) : Calls Tryz.prog 66 #[.int .i64 3, .string (bs s)] w fun e w' => e = .returned (fineV (bitsB s)) ∧ Below w.heap.size w w' := by
  match s with
  | [] => rw [fineV_f (show bitsB [] = false from rfl)]; exact bytes_3a [] w hs (by rw [bs_list]; rfl)
  | a :: r =>
    have hx := last_get (a := a) (r := r)
    by_cases h8 : a.toNat < 8
    · have h8z : (a.toNat : Int) < 8 := by omega
      by_cases h0 : a = 0
      · subst h0
        rw [fineV_t (show bitsB (0 :: r) = true from rfl)]
        exact bytes_3c (0 :: r) w hs 0 _ r.length rfl hx rfl (by decide) rfl
      · have h0n : a.toNat ≠ 0 := fun e => h0 (by rw [← u8_back a, e]; rfl)
        have h0z : ((a.toNat : Int) == 0) = false := by simp; omega
        have h0b : (a == 0) = false := by simpa using h0
        cases hr : r.getLast? with
        | none =>
          have hre : r = [] := by simpa using hr
          subst hre
          rw [fineV_f (show bitsB [a] = false by
            show (decide (a.toNat < 8) && (a == 0 || false)) = false
            rw [h0b]; simp)]
          exact bytes_3d [a] w hs a a rfl rfl rfl h8z h0z
        | some x =>
          rw [hr] at hx
          have hne : r ≠ [] := by rintro rfl; cases hr
          have hl := List.length_pos_iff.2 hne
          obtain ⟨k, hk⟩ : ∃ k, r.length = k + 1 := ⟨r.length - 1, by omega⟩
          rw [hk] at hx
          have hlen : (a :: r).length = k + 1 + 1 := by rw [List.length_cons, hk]
          obtain ⟨t1, t2, t3, t4, t5, t6, t7⟩ := and_tab x
          have hB : bitsB (a :: r) = (x.toNat % 2 ^ a.toNat == 0) := by
            show (decide (a.toNat < 8) && (a == 0 || match r.getLast? with | none => false | some x => x.toNat % 2 ^ a.toNat == 0)) = _
            rw [hr, h0b, decide_eq_true h8]; rfl
          have hn : ∀ n : Nat, (((n : Nat) : Int) == 0) = (n == 0) := fun n => by
            by_cases h : n = 0
            · subst h; rfl
            · have h1 : (((n : Nat) : Int) == 0) = false := by simp; omega
              have h2 : (n == 0) = false := by simpa using h
              rw [h1, h2]
          rw [hB]
          rcases (by omega : a.toNat = 1 ∨ a.toNat = 2 ∨ a.toNat = 3 ∨ a.toNat = 4 ∨ a.toNat = 5 ∨ a.toNat = 6 ∨ a.toNat = 7) with h | h | h | h | h | h | h
          · cases hq : (x.toNat % 2 == 0)
            · rw [h, fineV_f (show (x.toNat % 2 ^ 1 == 0) = false from hq)]; exact bytes_3e1f (a :: r) w hs a x k hlen hx rfl h (by rw [t1, hn]; exact hq)
            · rw [h, fineV_t (show (x.toNat % 2 ^ 1 == 0) = true from hq)]; exact bytes_3e1t (a :: r) w hs a x k hlen hx rfl h (by rw [t1, hn]; exact hq)
          · cases hq : (x.toNat % 4 == 0)
            · rw [h, fineV_f (show (x.toNat % 2 ^ 2 == 0) = false from hq)]; exact bytes_3e2f (a :: r) w hs a x k hlen hx rfl h (by rw [t2, hn]; exact hq)
            · rw [h, fineV_t (show (x.toNat % 2 ^ 2 == 0) = true from hq)]; exact bytes_3e2t (a :: r) w hs a x k hlen hx rfl h (by rw [t2, hn]; exact hq)
          · cases hq : (x.toNat % 8 == 0)
            · rw [h, fineV_f (show (x.toNat % 2 ^ 3 == 0) = false from hq)]; exact bytes_3e3f (a :: r) w hs a x k hlen hx rfl h (by rw [t3, hn]; exact hq)
            · rw [h, fineV_t (show (x.toNat % 2 ^ 3 == 0) = true from hq)]; exact bytes_3e3t (a :: r) w hs a x k hlen hx rfl h (by rw [t3, hn]; exact hq)
          · cases hq : (x.toNat % 16 == 0)
            · rw [h, fineV_f (show (x.toNat % 2 ^ 4 == 0) = false from hq)]; exact bytes_3e4f (a :: r) w hs a x k hlen hx rfl h (by rw [t4, hn]; exact hq)
            · rw [h, fineV_t (show (x.toNat % 2 ^ 4 == 0) = true from hq)]; exact bytes_3e4t (a :: r) w hs a x k hlen hx rfl h (by rw [t4, hn]; exact hq)
          · cases hq : (x.toNat % 32 == 0)
            · rw [h, fineV_f (show (x.toNat % 2 ^ 5 == 0) = false from hq)]; exact bytes_3e5f (a :: r) w hs a x k hlen hx rfl h (by rw [t5, hn]; exact hq)
            · rw [h, fineV_t (show (x.toNat % 2 ^ 5 == 0) = true from hq)]; exact bytes_3e5t (a :: r) w hs a x k hlen hx rfl h (by rw [t5, hn]; exact hq)
          · cases hq : (x.toNat % 64 == 0)
            · rw [h, fineV_f (show (x.toNat % 2 ^ 6 == 0) = false from hq)]; exact bytes_3e6f (a :: r) w hs a x k hlen hx rfl h (by rw [t6, hn]; exact hq)
            · rw [h, fineV_t (show (x.toNat % 2 ^ 6 == 0) = true from hq)]; exact bytes_3e6t (a :: r) w hs a x k hlen hx rfl h (by rw [t6, hn]; exact hq)
          · cases hq : (x.toNat % 128 == 0)
            · rw [h, fineV_f (show (x.toNat % 2 ^ 7 == 0) = false from hq)]; exact bytes_3e7f (a :: r) w hs a x k hlen hx rfl h (by rw [t7, hn]; exact hq)
            · rw [h, fineV_t (show (x.toNat % 2 ^ 7 == 0) = true from hq)]; exact bytes_3e7t (a :: r) w hs a x k hlen hx rfl h (by rw [t7, hn]; exact hq)
    · have hbf : bitsB (a :: r) = false := by
        show (decide (a.toNat < 8) && _) = false
        rw [decide_eq_false h8]; rfl
      rw [fineV_f hbf]
      exact bytes_3b (a :: r) w hs a _ r.length rfl hx rfl (by omega)
theorem bytes_2 (s : Bs) (w : World) (hs : s.length ≤ SB) : Calls Tryz.prog 66 #[.int .i64 2, .string (bs s)] w fun e w' => e = .returned (fineV (intB s)) ∧ Below w.heap.size w w' := by
  match s with
  | [] => rw [fineV_f (show intB [] = false from rfl)]; exact bytes_2a [] w hs (by rw [bs_list]; rfl)
  | [a] => rw [fineV_t (show intB [a] = true from rfl)]; exact bytes_2b [a] w hs (by rw [bs_list]; rfl) rfl
  | a :: b :: r =>
    have ha := and_128 a
    have hb := and_128 b
    have hI : intB (a :: b :: r) = !((a == 0 && decide (b.toNat < 128)) || (a == 255 && decide (128 ≤ b.toNat))) := rfl
    by_cases h0 : a = 0
    · subst h0
      have ha : bits BinOp.and IntKind.u8 (((0 : UInt8).toNat : Nat) : Int) 128 = 0 := by decide
      by_cases hb8 : b.toNat < 128
      · rw [fineV_f (by rw [hI, decide_eq_true hb8]; rfl)]
        exact bytes_2e (0 :: b :: r) w hs 0 b r rfl rfl (by rw [ha, hb, if_pos hb8]; rfl)
      · rw [fineV_t (by rw [hI, decide_eq_false hb8]; rfl)]
        exact bytes_2d (0 :: b :: r) w hs 0 b r rfl rfl (by rw [ha, hb, if_neg hb8]; rfl)
    · have h0n : a.toNat ≠ 0 := fun e => h0 (by rw [← u8_back a, e]; rfl)
      have h0z : ((a.toNat : Int) != 0) = true := by simp; omega
      have h0b : (a == 0) = false := by simpa using h0
      by_cases h5 : a = 255
      · subst h5
        have ha : bits BinOp.and IntKind.u8 (((255 : UInt8).toNat : Nat) : Int) 128 = 128 := by decide
        by_cases hb8 : b.toNat < 128
        · rw [fineV_t (by rw [hI, decide_eq_true hb8, decide_eq_false (by omega : ¬ 128 ≤ b.toNat)]; rfl)]
          exact bytes_2f (255 :: b :: r) w hs 255 b r rfl h0z rfl (by rw [ha, hb, if_pos hb8]; rfl)
        · rw [fineV_f (by rw [hI, decide_eq_false hb8, decide_eq_true (by omega : 128 ≤ b.toNat)]; rfl)]
          exact bytes_2g (255 :: b :: r) w hs 255 b r rfl h0z rfl (by rw [ha, hb, if_neg hb8]; rfl)
      · have h5n : a.toNat ≠ 255 := fun e => h5 (by rw [← u8_back a, e]; rfl)
        have h5z : ((a.toNat : Int) != 255) = true := by simp; omega
        have h5b : (a == 255) = false := by simpa using h5
        rw [fineV_t (by rw [hI, h0b, h5b]; rfl)]
        exact bytes_2c (a :: b :: r) w hs a b r rfl h0z h5z
theorem bytes_1 (s : Bs) (w : World) (hs : s.length ≤ SB) : Calls Tryz.prog 66 #[.int .i64 1, .string (bs s)] w fun e w' => e = .returned (fineV (s == [0] || s == [255])) ∧ Below w.heap.size w w' := by
  have hl := bs_list s
  cases h1 : (s == [0]) with
  | true => exact bytes_1a s w hs (by rw [hl]; exact h1)
  | false =>
    cases h2 : (s == [255]) with
    | true => exact bytes_1b s w hs (by rw [hl]; exact h1) (by rw [hl]; exact h2)
    | false => exact bytes_1c s w hs (by rw [hl]; exact h1) (by rw [hl]; exact h2)
theorem bytes_any (t : Int) (ht : primL.contains t = true) (s : Bs) (w : World) (hs : s.length ≤ SB) (hg : Gd w) (hl : t = 6 ∨ t = 12 → s.length ≤ 1048576) : Calls Tryz.prog 66 #[.int .i64 t, .string (bs s)] w fun e w' => e = .returned (fineV (fineS t s)) ∧ Below w.heap.size w w' := by
  have hm : t ∈ primL := List.contains_iff_mem.1 ht
  simp only [primL, List.mem_cons, List.not_mem_nil, or_false] at hm
  rcases hm with rfl | rfl | rfl | rfl | rfl | rfl | rfl | rfl | rfl | rfl | rfl
  · exact bytes_1 s w hs
  · exact bytes_2 s w hs
  · exact bytes_3 s w hs
  · exact bytes_4 s w hs
  · show Calls _ _ _ _ fun e w' => e = .returned (fineV s.isEmpty) ∧ _
    cases s with
    | nil => exact bytes_5t [] w hs (by rw [bs_list]; rfl)
    | cons a r => exact bytes_5f (a :: r) w hs (by rw [bs_list]; rfl)
  · show Calls _ _ _ _ fun e w' => e = .returned (fineV (groupsS s).isSome) ∧ _
    have hc := (groups_any s w (hl (Or.inl rfl)))
    cases hq : (groupsS s).isSome with
    | true => exact bytes_6t s w hs (hc.mono fun e w' ⟨⟨v, h1, _⟩, h2⟩ => ⟨⟨v, by rw [h1, hq]⟩, h2⟩)
    | false => exact bytes_6f s w hs (hc.mono fun e w' ⟨⟨v, h1, _⟩, h2⟩ => ⟨⟨v, by rw [h1, hq]⟩, h2⟩)
  · show Calls _ _ _ _ fun e w' => e = .returned (fineV (utfB s)) ∧ _
    have hc := Utf8_any s w (hl (Or.inr rfl)) hg
    cases hq : utfB s with
    | true => exact bytes_12t s w hs (hc.mono fun e w' h => ⟨by rw [h.1, hq], h.2⟩)
    | false => exact bytes_12f s w hs (hc.mono fun e w' h => ⟨by rw [h.1, hq], h.2⟩)
  · exact bytes_19 s w hs
  · exact bytes_22 s w hs
  · show Calls _ _ _ _ fun e w' => e = .returned (fineV (momentS 23 s).isSome) ∧ _
    have hc := moment_any 23 (Or.inl rfl) s w hs
    cases hq : (momentS 23 s).isSome with
    | true => exact bytes_23t s w hs (hc.mono fun e w' ⟨h1, h2⟩ => ⟨⟨_, h1.trans (by unfold momV; rw [hq])⟩, h2⟩)
    | false => exact bytes_23f s w hs (hc.mono fun e w' ⟨h1, h2⟩ => ⟨⟨_, h1.trans (by unfold momV; rw [hq])⟩, h2⟩)
  · show Calls _ _ _ _ fun e w' => e = .returned (fineV (momentS 24 s).isSome) ∧ _
    have hc := moment_any 24 (Or.inr rfl) s w hs
    cases hq : (momentS 24 s).isSome with
    | true => exact bytes_24t s w hs (hc.mono fun e w' ⟨h1, h2⟩ => ⟨⟨_, h1.trans (by unfold momV; rw [hq])⟩, h2⟩)
    | false => exact bytes_24f s w hs (hc.mono fun e w' ⟨h1, h2⟩ => ⟨⟨_, h1.trans (by unfold momV; rw [hq])⟩, h2⟩)
end Go.Proofs.YtebhiplcoioenaaGreatDoor
