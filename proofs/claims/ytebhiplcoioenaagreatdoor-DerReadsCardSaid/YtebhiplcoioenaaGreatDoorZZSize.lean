/- der.size: the walk. -/
import Derived.Test.YtebhiplcoioenaaGreatDoorZDD
namespace Go.Proofs.YtebhiplcoioenaaGreatDoor
open Go.RowKit

/-- What size answers. -/
def SizeQ (w : World) (c : Nat) (s : Bs) (z : Int × Nat × Bs) (e : Ending) (w' : World) : Prop :=
  (z.1 = 0 ∧ e = .returned (.tuple #[.int .i64 (z.2.1 : Nat), .nilIface]) ∧ (∃ q, Cur w' c s q ∧ s.drop q = z.2.2) ∧ Bes c w w') ∨ (z.1 ≠ 0 ∧ (∃ n, e = .returned (.tuple #[.int .i64 n, wrV z.1])) ∧ (∃ q, Cur w' c s q) ∧ Bes c w w')
theorem byte8_or (a b : Nat) (ha : a < 256) (hb : b < 256) : bits BinOp.or IntKind.i64 ((a : Int) * 256) (b : Int) = ((a * 256 + b : Nat) : Int) := by
  have h0 : ((a : Int) * 256) = ((a * 256 : Nat) : Int) := by omega
  have h1 : (BitVec.ofInt 64 ((a * 256 : Nat) : Int)).toNat = a * 256 := by
    rw [BitVec.ofInt_natCast, BitVec.toNat_ofNat]; exact Nat.mod_eq_of_lt (by omega)
  have h2 : (BitVec.ofInt 64 (b : Int)).toNat = b := by
    rw [BitVec.ofInt_natCast, BitVec.toNat_ofNat]; exact Nat.mod_eq_of_lt (by omega)
  have h3 : a * 256 ||| b = a * 256 + b := by
    rw [Nat.mul_comm]
    exact (Nat.two_pow_add_eq_or_of_lt (i := 8) hb a).symm
  rw [h0]
  show IntKind.i64.wrap ((BitVec.ofInt 64 ((a * 256 : Nat) : Int) ||| BitVec.ofInt 64 (b : Int)).toNat : Int) = _
  rw [BitVec.toNat_or, h1, h2, h3]
  rw [IntKind.wrap_i64]
  omega
set_option maxRecDepth 100000 in
set_option maxHeartbeats 4000000 in
theorem size_none (s : Bs) (p c : Nat) (w : World) (h : Cur w c s p) (hd : s.drop p = []) : Calls Tryz.prog 63 #[.pointer (some ⟨c, 0, none⟩)] w (SizeQ w c s (sizeS (s.drop p))) := by
  have HB : Hid (Calls Tryz.prog 61 #[.pointer (some ⟨c, 0, none⟩)] w fun e w' => e = .returned (.tuple #[.int .u8 0, .int .i64 15]) ∧ Below w.heap.size w w') := Lib.hid (Byte_short s p c w h (by rw [List.drop_eq_nil_iff] at hd; exact hd))
  have HC := Lib.hid h
  rw [hd]
  clear h hd
  go_enter Tryz.func63, Tryz.ntmps63
  go_wp2_with (go_at_call 61; refine HB.out.mono ?_; rintro e w2 ⟨rfl, hb⟩)
  go_ret2
  exact Or.inr ⟨by decide, ⟨_, rfl⟩, ⟨p, HC.out.below hb⟩, Bes.ofB hb⟩
set_option maxRecDepth 100000 in
set_option maxHeartbeats 4000000 in
theorem size_b (s r : Bs) (b : UInt8) (p c : Nat) (w : World) (h : Cur w c s p) (hd : s.drop p = b :: r) (hb : b.toNat < 128 ∨ b.toNat = 128 ∨ 130 < b.toNat) : Calls Tryz.prog 63 #[.pointer (some ⟨c, 0, none⟩)] w (SizeQ w c s (sizeS (s.drop p))) := by
  have HB := Lib.hid (Byte_ok s r b p c w h hd)
  have hr : s.drop (p + 1) = r := by rw [← List.drop_drop, hd]; rfl
  have HS : Hid (sizeS (s.drop p) = if b.toNat < 128 then (0, b.toNat, r) else (61, 0, [])) := Lib.hid (by
    rw [hd, sizeS]
    by_cases h1 : b.toNat < 128
    · rw [if_pos h1, if_pos h1]
    · rw [if_neg h1, if_neg h1, if_pos (by omega)])
  have hlt : b.toNat < 256 := b.toNat_lt
  have HR := Lib.hid hr
  clear h hd hr
  generalize b.toNat = n at *
  rcases hb with hb | rfl | hb
  · have hz : (n : Int) < 128 := by omega
    have HS2 : Hid (sizeS (s.drop p) = (0, n, r)) := Lib.hid (by rw [HS.out, if_pos hb])
    clear HS
    go_enter Tryz.func63, Tryz.ntmps63
    go_wp2_with (go_at_call 61; refine HB.out.mono ?_; rintro e w2 ⟨rfl, hc, hb2⟩)
    go_ret2
    rw [HS2.out]
    exact Or.inl ⟨rfl, rfl, ⟨p + 1, hc, HR.out⟩, hb2⟩
  · have HS2 : Hid (sizeS (s.drop p) = (61, 0, [])) := Lib.hid (by rw [HS.out, if_neg (by decide)])
    clear HS
    go_enter Tryz.func63, Tryz.ntmps63
    go_wp2_with (go_at_call 61; refine HB.out.mono ?_; rintro e w2 ⟨rfl, hc, hb2⟩)
    go_ret2
    rw [HS2.out]
    exact Or.inr ⟨by decide, ⟨_, rfl⟩, ⟨_, hc⟩, hb2⟩
  · have hz : (130 : Int) < (n : Int) := by omega
    have hz2 : ¬ (n : Int) < 128 := by omega
    have hz3 : ((n : Int) == 128) = false := by simp; omega
    have HS2 : Hid (sizeS (s.drop p) = (61, 0, [])) := Lib.hid (by rw [HS.out, if_neg (by omega)])
    clear HS
    go_enter Tryz.func63, Tryz.ntmps63
    go_wp2_with (go_at_call 61; refine HB.out.mono ?_; rintro e w2 ⟨rfl, hc, hb2⟩)
    go_ret2
    rw [HS2.out]
    exact Or.inr ⟨by decide, ⟨_, rfl⟩, ⟨_, hc⟩, hb2⟩
set_option maxRecDepth 100000 in
set_option maxHeartbeats 4000000 in
theorem size_sh (s r : Bs) (b : UInt8) (m p c : Nat) (w : World) (h : Cur w c s p) (hd : s.drop p = b :: r) (hm : m = 1 ∨ m = 2) (hb : b.toNat = 128 + m) (hr : r.length < m) : Calls Tryz.prog 63 #[.pointer (some ⟨c, 0, none⟩)] w (SizeQ w c s (sizeS (s.drop p))) := by
  have HB := Lib.hid (Byte_ok s r b p c w h hd)
  have hl : s.length - (p + 1) = r.length := by
    have : s.drop (p + 1) = r := by rw [← List.drop_drop, hd]; rfl
    rw [← this, List.length_drop]
  have HT : Hid (∀ u, Cur u c s (p + 1) → Calls Tryz.prog 65 #[.pointer (some ⟨c, 0, none⟩), .int .i64 m] u fun e w' => e = .returned (.tuple #[.string (bs []), .int .i64 15]) ∧ Below u.heap.size u w') := Lib.hid fun u hu => Take_short s (p + 1) c m u hu (by omega)
  have HS : Hid (sizeS (s.drop p) = (60, 0, [])) := Lib.hid (by
    rw [hd, sizeS, if_neg (by omega), if_neg (by omega)]
    rcases hm with rfl | rfl
    · rw [if_pos hb]
      match r, hr with
      | [], _ => rfl
      | _ :: _, hr => simp at hr
    · rw [if_neg (by omega)]
      match r, hr with
      | [], _ => rfl
      | [_], _ => rfl
      | _ :: _ :: _, hr => simp at hr; omega)
  clear h hd hl hr
  generalize b.toNat = n at *
  rcases hm with rfl | rfl
  all_goals
    subst hb
    go_enter Tryz.func63, Tryz.ntmps63
    go_wp2_with (first
      | (go_at_call 61; refine HB.out.mono ?_; rintro e w2 ⟨rfl, hc, hb2⟩)
      | (go_at_call 65; refine (HT.out _ hc).mono ?_; rintro e w3 ⟨rfl, hb3⟩))
    go_ret2
    rw [HS.out]
    exact Or.inr ⟨by decide, ⟨_, rfl⟩, ⟨_, hc.below hb3⟩, hb2.trans (Bes.ofB hb3)⟩
set_option maxRecDepth 100000 in
set_option maxHeartbeats 4000000 in
theorem size_1 (s r : Bs) (b x : UInt8) (p c : Nat) (w : World) (h : Cur w c s p) (hd : s.drop p = b :: x :: r) (hb : b.toNat = 129) : Calls Tryz.prog 63 #[.pointer (some ⟨c, 0, none⟩)] w (SizeQ w c s (sizeS (s.drop p))) := by
  have HB := Lib.hid (Byte_ok s _ b p c w h hd)
  have hr : s.drop (p + 1) = x :: r := by rw [← List.drop_drop, hd]; rfl
  have hr2 : s.drop (p + 1 + 1) = r := by rw [← List.drop_drop, hr]; rfl
  have hl : 1 ≤ s.length - (p + 1) := by rw [← List.length_drop, hr]; simp
  have HT : Hid (∀ u, Cur u c s (p + 1) → Calls Tryz.prog 65 #[.pointer (some ⟨c, 0, none⟩), .int .i64 1] u fun e w' => e = .returned (.tuple #[.string (bs [x]), .int .i64 0]) ∧ Cur w' c s (p + 1 + 1) ∧ Bes c u w') := Lib.hid fun u hu => by
    have := Take_ok s (p + 1) c 1 u hu hl
    rw [hr] at this
    exact this
  have HS : Hid (sizeS (s.drop p) = if x.toNat < 128 then (61, 0, []) else (0, x.toNat, r)) := Lib.hid (by
    rw [hd, sizeS, if_neg (by omega), if_neg (by omega), if_pos hb]
    rfl)
  have HIT : Hid (∀ u, Calls Tryz.prog 34 #[.bool true, .int .i64 61] u fun e w' => e = .returned (wrV 61) ∧ w' = u) := Lib.hid fun u => is_any true 61 u
  have HIF : Hid (∀ u, Calls Tryz.prog 34 #[.bool (decide ((x.toNat : Int) < 128)), .int .i64 61] u fun e w' => e = .returned (if decide ((x.toNat : Int) < 128) then wrV 61 else .nilIface) ∧ w' = u) := Lib.hid fun u => is_any _ 61 u
  have hg := bs_get [x] 0 x rfl
  have zs : (bs [x]).size = 1 := bs_size [x]
  have HR := Lib.hid hr2
  clear h hd hr hr2 hl
  have hx : x.toNat < 256 := x.toNat_lt
  generalize bs [x] = X at *
  generalize b.toNat = n at *
  subst hb
  by_cases h1 : x.toNat < 128
  · have h1z : (x.toNat : Int) < 128 := by omega
    have HS2 : Hid (sizeS (s.drop p) = (61, 0, [])) := Lib.hid (by rw [HS.out, if_pos h1])
    clear HS h1 HIF
    go_enter Tryz.func63, Tryz.ntmps63
    go_wp2_with (first
      | (go_at_call 61; refine HB.out.mono ?_; rintro e w2 ⟨rfl, hc, hb2⟩)
      | (go_at_call 65; refine (HT.out _ hc).mono ?_; rintro e w3 ⟨rfl, hc3, hb3⟩)
      | (go_at_call 34; refine (HIT.out _).mono ?_; rintro e w4 ⟨rfl, rfl⟩))
    go_ret2
    rw [HS2.out]
    exact Or.inr ⟨by decide, ⟨_, rfl⟩, ⟨_, hc3⟩, hb2.trans hb3⟩
  · have HS2 : Hid (sizeS (s.drop p) = (0, x.toNat, r)) := Lib.hid (by rw [HS.out, if_neg h1])
    have HIZ : Hid (∀ u, Calls Tryz.prog 34 #[.bool (decide ((x.toNat : Int) < 128)), .int .i64 61] u fun e w' => e = .returned .nilIface ∧ w' = u) := Lib.hid fun u => by
      have := HIF.out u
      rw [decide_eq_false (by omega)] at this ⊢
      exact this
    clear HS h1 HIF HIT
    go_enter Tryz.func63, Tryz.ntmps63
    go_wp2_with (first
      | (go_at_call 61; refine HB.out.mono ?_; rintro e w2 ⟨rfl, hc, hb2⟩)
      | (go_at_call 65; refine (HT.out _ hc).mono ?_; rintro e w3 ⟨rfl, hc3, hb3⟩)
      | (go_at_call 34; refine (HIZ.out _).mono ?_; rintro e w4 ⟨rfl, rfl⟩))
    go_ret2
    rw [HS2.out]
    exact Or.inl ⟨rfl, rfl, ⟨_, hc3, HR.out⟩, hb2.trans hb3⟩
set_option maxRecDepth 100000 in
set_option maxHeartbeats 4000000 in
theorem size_2 (s r : Bs) (b x y : UInt8) (p c : Nat) (w : World) (h : Cur w c s p) (hd : s.drop p = b :: x :: y :: r) (hb : b.toNat = 130) : Calls Tryz.prog 63 #[.pointer (some ⟨c, 0, none⟩)] w (SizeQ w c s (sizeS (s.drop p))) := by
  have HB := Lib.hid (Byte_ok s _ b p c w h hd)
  have hr : s.drop (p + 1) = x :: y :: r := by rw [← List.drop_drop, hd]; rfl
  have hr2 : s.drop (p + 1 + 2) = r := by rw [← List.drop_drop, hr]; rfl
  have hl : 2 ≤ s.length - (p + 1) := by rw [← List.length_drop, hr]; simp
  have HT : Hid (∀ u, Cur u c s (p + 1) → Calls Tryz.prog 65 #[.pointer (some ⟨c, 0, none⟩), .int .i64 2] u fun e w' => e = .returned (.tuple #[.string (bs [x, y]), .int .i64 0]) ∧ Cur w' c s (p + 1 + 2) ∧ Bes c u w') := Lib.hid fun u hu => by
    have := Take_ok s (p + 1) c 2 u hu hl
    rw [hr] at this
    exact this
  obtain ⟨v, hv⟩ : ∃ v, v = x.toNat * 256 + y.toNat := ⟨_, rfl⟩
  have hx : x.toNat < 256 := x.toNat_lt
  have hy : y.toNat < 256 := y.toNat_lt
  have HS : Hid (sizeS (s.drop p) = if v < 256 then (61, 0, []) else (0, v, r)) := Lib.hid (by
    rw [hd, sizeS, if_neg (by omega), if_neg (by omega), if_neg (by omega), hv]
    rfl)
  have HIT : Hid (∀ u, Calls Tryz.prog 34 #[.bool true, .int .i64 61] u fun e w' => e = .returned (wrV 61) ∧ w' = u) := Lib.hid fun u => is_any true 61 u
  have HIF : Hid (∀ u, Calls Tryz.prog 34 #[.bool (decide ((v : Int) < 256)), .int .i64 61] u fun e w' => e = .returned (if decide ((v : Int) < 256) then wrV 61 else .nilIface) ∧ w' = u) := Lib.hid fun u => is_any _ 61 u
  have hor := byte8_or x.toNat y.toNat hx hy
  rw [← hv] at hor
  have hg := bs_get [x, y] 0 x rfl
  have hg1 := bs_get [x, y] 1 y rfl
  have zs : (bs [x, y]).size = 2 := bs_size [x, y]
  have HR := Lib.hid hr2
  have hvb : v < 65536 := by omega
  clear h hd hr hr2 hl hv
  generalize bs [x, y] = X at *
  generalize b.toNat = n at *
  subst hb
  by_cases h1 : v < 256
  · have h1z : (v : Int) < 256 := by omega
    have HS2 : Hid (sizeS (s.drop p) = (61, 0, [])) := Lib.hid (by rw [HS.out, if_pos h1])
    clear HS h1 HIF
    go_enter Tryz.func63, Tryz.ntmps63
    go_wp2_with (first
      | (go_at_call 61; refine HB.out.mono ?_; rintro e w2 ⟨rfl, hc, hb2⟩)
      | (go_at_call 65; refine (HT.out _ hc).mono ?_; rintro e w3 ⟨rfl, hc3, hb3⟩)
      | (go_at_call 34; refine (HIT.out _).mono ?_; rintro e w4 ⟨rfl, rfl⟩))
    go_ret2
    rw [HS2.out]
    exact Or.inr ⟨by decide, ⟨_, rfl⟩, ⟨_, hc3⟩, hb2.trans hb3⟩
  · have HS2 : Hid (sizeS (s.drop p) = (0, v, r)) := Lib.hid (by rw [HS.out, if_neg h1])
    have HIZ : Hid (∀ u, Calls Tryz.prog 34 #[.bool (decide ((v : Int) < 256)), .int .i64 61] u fun e w' => e = .returned .nilIface ∧ w' = u) := Lib.hid fun u => by
      have := HIF.out u
      rw [decide_eq_false (by omega)] at this ⊢
      exact this
    clear HS h1 HIF HIT
    go_enter Tryz.func63, Tryz.ntmps63
    go_wp2_with (first
      | (go_at_call 61; refine HB.out.mono ?_; rintro e w2 ⟨rfl, hc, hb2⟩)
      | (go_at_call 65; refine (HT.out _ hc).mono ?_; rintro e w3 ⟨rfl, hc3, hb3⟩)
      | (go_at_call 34; refine (HIZ.out _).mono ?_; rintro e w4 ⟨rfl, rfl⟩))
    go_ret2
    rw [HS2.out]
    exact Or.inl ⟨rfl, rfl, ⟨_, hc3, HR.out⟩, hb2.trans hb3⟩
theorem size_any (s : Bs) (p c : Nat) (w : World) (h : Cur w c s p) : Calls Tryz.prog 63 #[.pointer (some ⟨c, 0, none⟩)] w (SizeQ w c s (sizeS (s.drop p))) := by
  match hd : s.drop p with
  | [] => have := size_none s p c w h hd; rw [hd] at this; exact this
  | b :: r =>
    have hlt : b.toNat < 256 := b.toNat_lt
    rw [← hd]
    rcases (by omega : (b.toNat < 128 ∨ b.toNat = 128 ∨ 130 < b.toNat) ∨ b.toNat = 129 ∨ b.toNat = 130) with hb | hb | hb
    · exact size_b s r b p c w h hd hb
    · match r, hd with
      | [], hd => exact size_sh s [] b 1 p c w h hd (Or.inl rfl) hb (by simp)
      | x :: r, hd => exact size_1 s r b x p c w h hd hb
    · match r, hd with
      | [], hd => exact size_sh s [] b 2 p c w h hd (Or.inr rfl) hb (by simp)
      | [x], hd => exact size_sh s [x] b 2 p c w h hd (Or.inr rfl) hb (by simp)
      | x :: y :: r, hd => exact size_2 s r b x y p c w h hd hb
end Go.Proofs.YtebhiplcoioenaaGreatDoor
