/- der.Time, der.Nat, der.OfNat, der.Bits: the walks (gen_ztime.py). -/
import Derived.Test.YtebhiplcoioenaaGreatDoorZZAmong
import Derived.Test.YtebhiplcoioenaaGreatDoorZZOfTime
import Derived.Test.YtebhiplcoioenaaGreatDoorZZMom
import Derived.Test.YtebhiplcoioenaaGreatDoorZDI
import Derived.Handy
import Derived.BigQuiet
namespace Go.Proofs.YtebhiplcoioenaaGreatDoor
open Go.RowKit

set_option maxRecDepth 100000 in
set_option maxHeartbeats 4000000 in
theorem Time_any (v : Dv) (ad : Option Addr) (cp : Nat) (w : World) (hb : v.b.length ≤ SB) (hg : Gd w) (hck : ∀ t, t ∈ ([23, 24] : List Int) → v.c = 0 → v.t = t → ∀ u, Below w.heap.size w u → Calls Tryz.prog 15 #[dvv v ad cp] u (RetI v.check u)) : Calls Tryz.prog 20 #[dvv v ad cp] w fun e w' => e = .returned (.tuple #[.int .i64 (timeN v).1, .int .i64 (timeN v).2]) ∧ Below w.heap.size w w' := by
  have hSB := SB_eq
  have hR := Rws.start w
  have HAM : Hid (∀ u, Below w.heap.size w u → Calls Tryz.prog 39 #[dvv v ad cp, .slice (some ⟨u.heap.size, 0, none⟩) 2 2] (u.alloc (.cells #[.int .i64 23, .int .i64 24] 3)) fun e w' => e = .returned (amongV (([23, 24] : List Int).any v.isK)) ∧ Below (u.alloc (.cells #[.int .i64 23, .int .i64 24] 3)).heap.size (u.alloc (.cells #[.int .i64 23, .int .i64 24] 3)) w') := Lib.hid fun u hu =>
    among_any v ad cp [23, 24] u.heap.size 2 _ (fun j x hx => by
      rw [cell_new]
      match j, hx with
      | 0, hx => cases hx; rfl
      | 1, hx => cases hx; rfl
      | j + 2, hx => simp at hx) (by simp) (by simp) (by simp [MX_eq]) (fun t ht hc htt u2 hu2 => hck t ht hc htt u2 (hu.trans ((b_alloc u _).mono (hu.size) |>.trans (hu2.mono (by simp; have := hu.size; omega)))))
  have HTO : Hid (∀ u, Below w.heap.size w u → Calls Tryz.prog 36 #[wrV 65] u (RetI 65 u)) := Lib.hid fun u hu => told_any 65 _ (Or.inr ⟨by decide, 0, .wrong⟩) u (hg.below hu).ty
  cases hB : ([23, 24] : List Int).any v.isK with
  | false =>
    have hx : timeN v = (0, 65) := by
      unfold timeN
      rw [if_neg (fun h => by simp only [List.any_cons, List.any_nil, Bool.or_false, Bool.or_eq_false_iff] at hB; rcases h with h | h; rw [hB.1] at h; cases h; rw [hB.2] at h; cases h)]
    rw [hx]
    obtain ⟨c, t, k, b, l⟩ := v
    rw [hB] at HAM
    clear hx hB hck hb
    have HAM : Hid (∀ u, Below w.heap.size w u → Calls Tryz.prog 39 #[dvv ⟨c, t, k, b, l⟩ ad cp, .slice (some ⟨u.heap.size, 0, none⟩) 2 2] (u.alloc (.cells #[.int .i64 23, .int .i64 24] 3)) fun e w' => e = .returned (wrV 65) ∧ Below (u.alloc (.cells #[.int .i64 23, .int .i64 24] 3)).heap.size (u.alloc (.cells #[.int .i64 23, .int .i64 24] 3)) w') := HAM
    go_enter Tryz.func20, Tryz.ntmps20
    go_upto_region 1 with (refine wpList_box_rws rfl _ _ (by rfl) (by exact hR) (dvC ⟨c, t, k, b, l⟩ ad cp) rfl ?_; intro gb w1 hR)
    go_upto_region 2 with (first
      | (refine wpList_load_rws rfl _ _ (by rfl) (by exact hR) gb rfl (dvC ⟨c, t, k, b, l⟩ ad cp) _ (List.Mem.head _) _ Tryz.underlying24 rfl (by kernel_rfl) ?_)
      | (go_at_call 39; refine (HAM.out _ hR.below).mono ?_; rintro e w2 ⟨rfl, hb2⟩; have hR := (hR.alloc0 _).call hb2))
    go_wp2_with (go_at_call 36; refine (HTO.out _ hR.below).mono ?_; rintro e w3 ⟨rfl, hb3⟩; have hR := hR.call hb3)
    go_ret2
    exact ⟨rfl, hR.below⟩
  | true =>
    have hB2 : v.isK 23 = true ∨ v.isK 24 = true := by simpa [List.any_cons] using hB
    obtain ⟨a, hx, hm, ht⟩ : ∃ a, timeN v = (a, 0) ∧ momentS v.t v.b = some a ∧ (v.t = 23 ∨ v.t = 24) := by
      unfold timeN
      rw [if_pos hB2]
      rcases hB2 with h | h
      · obtain ⟨h1, h2, _⟩ := prim_ok h (by decide)
        rw [fine_utc] at h2
        have ht : v.t = 23 := (isK_iff.1 h).2.1
        obtain ⟨a, ha⟩ := Option.isSome_iff_exists.1 h2
        exact ⟨a, by rw [ht, ha]; rfl, by rw [ht]; exact ha, Or.inl ht⟩
      · obtain ⟨h1, h2, _⟩ := prim_ok h (by decide)
        rw [fine_tim] at h2
        have ht : v.t = 24 := (isK_iff.1 h).2.1
        obtain ⟨a, ha⟩ := Option.isSome_iff_exists.1 h2
        exact ⟨a, by rw [ht, ha]; rfl, by rw [ht]; exact ha, Or.inr ht⟩
    rw [hx]
    have HMO : Hid (∀ u, Calls Tryz.prog 51 #[.int .i64 v.t, .string (bs v.b)] u fun e w' => e = .returned (.tuple #[.int .i64 a, .bool true]) ∧ Below u.heap.size u w') := Lib.hid fun u => by
      have := moment_any v.t ht v.b u hb
      rw [hm] at this
      exact this
    obtain ⟨c, t, k, b, l⟩ := v
    rw [hB] at HAM
    clear hx hB hck hb hB2 hm ht
    have HAM : Hid (∀ u, Below w.heap.size w u → Calls Tryz.prog 39 #[dvv ⟨c, t, k, b, l⟩ ad cp, .slice (some ⟨u.heap.size, 0, none⟩) 2 2] (u.alloc (.cells #[.int .i64 23, .int .i64 24] 3)) fun e w' => e = .returned .nilIface ∧ Below (u.alloc (.cells #[.int .i64 23, .int .i64 24] 3)).heap.size (u.alloc (.cells #[.int .i64 23, .int .i64 24] 3)) w') := HAM
    go_enter Tryz.func20, Tryz.ntmps20
    go_upto_region 1 with (refine wpList_box_rws rfl _ _ (by rfl) (by exact hR) (dvC ⟨c, t, k, b, l⟩ ad cp) rfl ?_; intro gb w1 hR)
    go_upto_region 2 with (first
      | (refine wpList_load_rws rfl _ _ (by rfl) (by exact hR) gb rfl (dvC ⟨c, t, k, b, l⟩ ad cp) _ (List.Mem.head _) _ Tryz.underlying24 rfl (by kernel_rfl) ?_)
      | (go_at_call 39; refine (HAM.out _ hR.below).mono ?_; rintro e w2 ⟨rfl, hb2⟩; have hR := (hR.alloc0 _).call hb2))
    have f1 := hR.cellAt (g := gb) (List.Mem.head _) 1 rfl
    have f3 := hR.cellAt (g := gb) (List.Mem.head _) 3 rfl
    go_wp2_with (go_at_call 51; refine (HMO.out _).mono ?_; rintro e w3 ⟨rfl, hb3⟩; have hR := hR.call hb3)
    go_ret2
    exact ⟨rfl, hR.below⟩
theorem trim_ok (s : Bs) (w : World) : Calls Tryz.prog 59 #[.string (bs s), .string ⟨#[0]⟩] w fun e w' => e = .returned (.string (bs (trimS s))) ∧ w' = w := by
  have := Tryz.strings_TrimLeft_one (bs s) 0 (by decide) w
  rw [bs_data] at this
  exact this
theorem zb (s : Bs) : (bs s == (⟨#[]⟩ : ByteArray)) = s.isEmpty := by
  cases s with
  | nil => rfl
  | cons x r => rfl
set_option maxRecDepth 100000 in
set_option maxHeartbeats 4000000 in
theorem Nat_any (v : Dv) (ad : Option Addr) (cp : Nat) (w : World) (hb : v.b.length ≤ SB) (hg : Gd w) (hck : ∀ t, t ∈ ([2] : List Int) → v.c = 0 → v.t = t → ∀ u, Below w.heap.size w u → Calls Tryz.prog 15 #[dvv v ad cp] u (RetI v.check u)) : Calls Tryz.prog 25 #[dvv v ad cp] w fun e w' => e = .returned (.tuple #[.string (bs (natS v).1), .int .i64 (natS v).2]) ∧ Below w.heap.size w w' := by
  have hSB := SB_eq
  have hR := Rws.start w
  have HAM : Hid (∀ u, Below w.heap.size w u → Calls Tryz.prog 39 #[dvv v ad cp, .slice (some ⟨u.heap.size, 0, none⟩) 1 1] (u.alloc (.cells #[.int .i64 2] 3)) fun e w' => e = .returned (amongV (([2] : List Int).any v.isK)) ∧ Below (u.alloc (.cells #[.int .i64 2] 3)).heap.size (u.alloc (.cells #[.int .i64 2] 3)) w') := Lib.hid fun u hu =>
    among_any v ad cp [2] u.heap.size 1 _ (fun j x hx => by
      rw [cell_new]
      match j, hx with
      | 0, hx => cases hx; rfl
      | j + 1, hx => simp at hx) (by simp) (by simp) (by simp [MX_eq]) (fun t ht hc htt u2 hu2 => hck t ht hc htt u2 (hu.trans ((b_alloc u _).mono (hu.size) |>.trans (hu2.mono (by simp; have := hu.size; omega)))))
  have HTO : Hid (∀ u, Below w.heap.size w u → Calls Tryz.prog 36 #[wrV 65] u (RetI 65 u)) := Lib.hid fun u hu => told_any 65 _ (Or.inr ⟨by decide, 0, .wrong⟩) u (hg.below hu).ty
  cases hB : ([2] : List Int).any v.isK with
  | false =>
    have hx : natS v = ([], 65) := by
      unfold natS
      rw [if_neg (fun h => by simp only [List.any_cons, List.any_nil, Bool.or_false] at hB; rw [hB] at h; cases h)]
    rw [hx]
    obtain ⟨c, t, k, b, l⟩ := v
    rw [hB] at HAM
    clear hx hB hck hb
    have HAM : Hid (∀ u, Below w.heap.size w u → Calls Tryz.prog 39 #[dvv ⟨c, t, k, b, l⟩ ad cp, .slice (some ⟨u.heap.size, 0, none⟩) 1 1] (u.alloc (.cells #[.int .i64 2] 3)) fun e w' => e = .returned (wrV 65) ∧ Below (u.alloc (.cells #[.int .i64 2] 3)).heap.size (u.alloc (.cells #[.int .i64 2] 3)) w') := HAM
    go_enter Tryz.func25, Tryz.ntmps25
    go_upto_region 1 with (refine wpList_box_rws rfl _ _ (by rfl) (by exact hR) (dvC ⟨c, t, k, b, l⟩ ad cp) rfl ?_; intro gb w1 hR)
    go_upto_region 2 with (first
      | (refine wpList_load_rws rfl _ _ (by rfl) (by exact hR) gb rfl (dvC ⟨c, t, k, b, l⟩ ad cp) _ (List.Mem.head _) _ Tryz.underlying24 rfl (by kernel_rfl) ?_)
      | (go_at_call 39; refine (HAM.out _ hR.below).mono ?_; rintro e w2 ⟨rfl, hb2⟩; have hR := (hR.alloc0 _).call hb2))
    go_wp2_with (go_at_call 36; refine (HTO.out _ hR.below).mono ?_; rintro e w3 ⟨rfl, hb3⟩; have hR := hR.call hb3)
    go_ret2
    exact ⟨rfl, hR.below⟩
  | true =>
    have hB2 : v.isK 2 = true := by simpa [List.any_cons] using hB
    obtain ⟨x, r, hbx⟩ : ∃ x r, v.b = x :: r := by
      obtain ⟨_, h2, _⟩ := prim_ok hB2 (by decide)
      rw [fine_int] at h2
      cases hv : v.b with
      | nil => rw [hv] at h2; cases h2
      | cons x r => exact ⟨x, r, rfl⟩
    have hx : natS v = if 127 < x.toNat then ([], 61) else (trimS (x :: r), 0) := by
      unfold natS
      rw [if_pos hB2, hbx]
      rfl
    rw [hx]
    have HTR : Hid (∀ s u, Calls Tryz.prog 59 #[.string (bs s), .string ⟨#[0]⟩] u fun e w' => e = .returned (.string (bs (trimS s))) ∧ w' = u) := Lib.hid trim_ok
    by_cases h7 : 127 < x.toNat
    · rw [if_pos h7]
      have h7z : (127 : Int) < (x.toNat : Int) := by omega
      obtain ⟨c, t, k, b, l⟩ := v
      simp only at hbx
      subst hbx
      rw [hB] at HAM
      clear hx hB hck hb hB2
      have HAM : Hid (∀ u, Below w.heap.size w u → Calls Tryz.prog 39 #[dvv ⟨c, t, k, x :: r, l⟩ ad cp, .slice (some ⟨u.heap.size, 0, none⟩) 1 1] (u.alloc (.cells #[.int .i64 2] 3)) fun e w' => e = .returned .nilIface ∧ Below (u.alloc (.cells #[.int .i64 2] 3)).heap.size (u.alloc (.cells #[.int .i64 2] 3)) w') := HAM
      go_enter Tryz.func25, Tryz.ntmps25
      go_upto_region 1 with (refine wpList_box_rws rfl _ _ (by rfl) (by exact hR) (dvC ⟨c, t, k, x :: r, l⟩ ad cp) rfl ?_; intro gb w1 hR)
      go_upto_region 2 with (first
        | (refine wpList_load_rws rfl _ _ (by rfl) (by exact hR) gb rfl (dvC ⟨c, t, k, x :: r, l⟩ ad cp) _ (List.Mem.head _) _ Tryz.underlying24 rfl (by kernel_rfl) ?_)
        | (go_at_call 39; refine (HAM.out _ hR.below).mono ?_; rintro e w2 ⟨rfl, hb2⟩; have hR := (hR.alloc0 _).call hb2))
      have f3 := hR.cellAt (g := gb) (List.Mem.head _) 3 rfl
      have zs := bs_size (x :: r)
      have hlen : (x :: r).length = r.length + 1 := rfl
      have hget : ∀ h, (bs (x :: r))[0]'h = x := fun h => bs_get (x :: r) 0 x rfl h
      go_wp2_with fail
      go_ret2
      exact ⟨rfl, hR.below⟩
    · rw [if_neg h7]
      have h7z : ¬ (127 : Int) < (x.toNat : Int) := by omega
      obtain ⟨c, t, k, b, l⟩ := v
      simp only at hbx
      subst hbx
      rw [hB] at HAM
      clear hx hB hck hb hB2
      have HAM : Hid (∀ u, Below w.heap.size w u → Calls Tryz.prog 39 #[dvv ⟨c, t, k, x :: r, l⟩ ad cp, .slice (some ⟨u.heap.size, 0, none⟩) 1 1] (u.alloc (.cells #[.int .i64 2] 3)) fun e w' => e = .returned .nilIface ∧ Below (u.alloc (.cells #[.int .i64 2] 3)).heap.size (u.alloc (.cells #[.int .i64 2] 3)) w') := HAM
      go_enter Tryz.func25, Tryz.ntmps25
      go_upto_region 1 with (refine wpList_box_rws rfl _ _ (by rfl) (by exact hR) (dvC ⟨c, t, k, x :: r, l⟩ ad cp) rfl ?_; intro gb w1 hR)
      go_upto_region 2 with (first
        | (refine wpList_load_rws rfl _ _ (by rfl) (by exact hR) gb rfl (dvC ⟨c, t, k, x :: r, l⟩ ad cp) _ (List.Mem.head _) _ Tryz.underlying24 rfl (by kernel_rfl) ?_)
        | (go_at_call 39; refine (HAM.out _ hR.below).mono ?_; rintro e w2 ⟨rfl, hb2⟩; have hR := (hR.alloc0 _).call hb2))
      have f3 := hR.cellAt (g := gb) (List.Mem.head _) 3 rfl
      have zs := bs_size (x :: r)
      have hlen : (x :: r).length = r.length + 1 := rfl
      have hget : ∀ h, (bs (x :: r))[0]'h = x := fun h => bs_get (x :: r) 0 x rfl h
      go_wp2_with (go_at_call 59; refine (HTR.out _ _).mono ?_; rintro e w3 ⟨rfl, rfl⟩)
      go_ret2
      exact ⟨rfl, hR.below⟩
set_option maxRecDepth 100000 in
set_option maxHeartbeats 4000000 in
theorem Bits_any (v : Dv) (ad : Option Addr) (cp : Nat) (w : World) (hb : v.b.length ≤ SB) (hg : Gd w) (hck : ∀ t, t ∈ ([3] : List Int) → v.c = 0 → v.t = t → ∀ u, Below w.heap.size w u → Calls Tryz.prog 15 #[dvv v ad cp] u (RetI v.check u)) : Calls Tryz.prog 28 #[dvv v ad cp] w fun e w' => e = .returned (.tuple #[.string (bs (bitsS v).1), .int .i64 (bitsS v).2.1, .int .i64 (bitsS v).2.2]) ∧ Below w.heap.size w w' := by
  have hSB := SB_eq
  have hR := Rws.start w
  have HAM : Hid (∀ u, Below w.heap.size w u → Calls Tryz.prog 39 #[dvv v ad cp, .slice (some ⟨u.heap.size, 0, none⟩) 1 1] (u.alloc (.cells #[.int .i64 3] 3)) fun e w' => e = .returned (amongV (([3] : List Int).any v.isK)) ∧ Below (u.alloc (.cells #[.int .i64 3] 3)).heap.size (u.alloc (.cells #[.int .i64 3] 3)) w') := Lib.hid fun u hu =>
    among_any v ad cp [3] u.heap.size 1 _ (fun j x hx => by
      rw [cell_new]
      match j, hx with
      | 0, hx => cases hx; rfl
      | j + 1, hx => simp at hx) (by simp) (by simp) (by simp [MX_eq]) (fun t ht hc htt u2 hu2 => hck t ht hc htt u2 (hu.trans ((b_alloc u _).mono (hu.size) |>.trans (hu2.mono (by simp; have := hu.size; omega)))))
  have HTO : Hid (∀ u, Below w.heap.size w u → Calls Tryz.prog 36 #[wrV 65] u (RetI 65 u)) := Lib.hid fun u hu => told_any 65 _ (Or.inr ⟨by decide, 0, .wrong⟩) u (hg.below hu).ty
  cases hB : ([3] : List Int).any v.isK with
  | false =>
    have hx : bitsS v = ([], 0, 65) := by
      unfold bitsS
      rw [if_neg (fun h => by simp only [List.any_cons, List.any_nil, Bool.or_false] at hB; rw [hB] at h; cases h)]
    rw [hx]
    obtain ⟨c, t, k, b, l⟩ := v
    rw [hB] at HAM
    clear hx hB hck hb
    have HAM : Hid (∀ u, Below w.heap.size w u → Calls Tryz.prog 39 #[dvv ⟨c, t, k, b, l⟩ ad cp, .slice (some ⟨u.heap.size, 0, none⟩) 1 1] (u.alloc (.cells #[.int .i64 3] 3)) fun e w' => e = .returned (wrV 65) ∧ Below (u.alloc (.cells #[.int .i64 3] 3)).heap.size (u.alloc (.cells #[.int .i64 3] 3)) w') := HAM
    go_enter Tryz.func28, Tryz.ntmps28
    go_upto_region 1 with (refine wpList_box_rws rfl _ _ (by rfl) (by exact hR) (dvC ⟨c, t, k, b, l⟩ ad cp) rfl ?_; intro gb w1 hR)
    go_upto_region 2 with (first
      | (refine wpList_load_rws rfl _ _ (by rfl) (by exact hR) gb rfl (dvC ⟨c, t, k, b, l⟩ ad cp) _ (List.Mem.head _) _ Tryz.underlying24 rfl (by kernel_rfl) ?_)
      | (go_at_call 39; refine (HAM.out _ hR.below).mono ?_; rintro e w2 ⟨rfl, hb2⟩; have hR := (hR.alloc0 _).call hb2))
    go_wp2_with (go_at_call 36; refine (HTO.out _ hR.below).mono ?_; rintro e w3 ⟨rfl, hb3⟩; have hR := hR.call hb3)
    go_ret3
    exact ⟨rfl, hR.below⟩
  | true =>
    have hB2 : v.isK 3 = true := by simpa [List.any_cons] using hB
    obtain ⟨x, r, hbx⟩ : ∃ x r, v.b = x :: r := by
      obtain ⟨_, h2, _⟩ := prim_ok hB2 (by decide)
      rw [fine_bits] at h2
      cases hv : v.b with
      | nil => rw [hv] at h2; cases h2
      | cons x r => exact ⟨x, r, rfl⟩
    have hx : bitsS v = (r, x.toNat, 0) := by
      unfold bitsS
      rw [if_pos hB2, hbx]
      rfl
    rw [hx]
    have hb2 : (x :: r).length ≤ SB := by rw [← hbx]; exact hb
    obtain ⟨c, t, k, b, l⟩ := v
    simp only at hbx
    subst hbx
    rw [hB] at HAM
    clear hx hB hck hb hB2
    have HAM : Hid (∀ u, Below w.heap.size w u → Calls Tryz.prog 39 #[dvv ⟨c, t, k, x :: r, l⟩ ad cp, .slice (some ⟨u.heap.size, 0, none⟩) 1 1] (u.alloc (.cells #[.int .i64 3] 3)) fun e w' => e = .returned .nilIface ∧ Below (u.alloc (.cells #[.int .i64 3] 3)).heap.size (u.alloc (.cells #[.int .i64 3] 3)) w') := HAM
    go_enter Tryz.func28, Tryz.ntmps28
    go_upto_region 1 with (refine wpList_box_rws rfl _ _ (by rfl) (by exact hR) (dvC ⟨c, t, k, x :: r, l⟩ ad cp) rfl ?_; intro gb w1 hR)
    go_upto_region 2 with (first
      | (refine wpList_load_rws rfl _ _ (by rfl) (by exact hR) gb rfl (dvC ⟨c, t, k, x :: r, l⟩ ad cp) _ (List.Mem.head _) _ Tryz.underlying24 rfl (by kernel_rfl) ?_)
      | (go_at_call 39; refine (HAM.out _ hR.below).mono ?_; rintro e w2 ⟨rfl, hb2⟩; have hR := (hR.alloc0 _).call hb2))
    have f3 := hR.cellAt (g := gb) (List.Mem.head _) 3 rfl
    have zs := bs_size (x :: r)
    have hlen : (x :: r).length = r.length + 1 := rfl
    have hget : ∀ h, (bs (x :: r))[0]'h = x := fun h => bs_get (x :: r) 0 x rfl h
    have hcut : ∀ n, r.length + 1 ≤ n → (bs (x :: r)).extract 1 n = bs r := fun n hn => by rw [bs_cut, List.take_of_length_le (by simpa using hn)]; rfl
    have HCU := Lib.hid hcut
    clear hcut
    go_upto_region 4 with fail
    have hwr : Go.RowKit.wrap64 ((x.toNat : Nat) : Int) = ((x.toNat : Nat) : Int) := IntWalk.wrap64_in _ (by have := x.toNat_lt; omega)
    go_quiet (fail)
    go_wp2_with fail
    go_ret3
    rw [hwr, HCU.out _ (Nat.le_refl _)]
    exact ⟨rfl, below_drawn hR.below _⟩
set_option maxRecDepth 100000 in
set_option maxHeartbeats 8000000 in
theorem OfNat_any (a : Bs) (w : World) (_ha : a.length ≤ SB) : Calls Tryz.prog 27 #[.string (bs a)] w (RetDv w (ofNatS a)) := by
  have hSB := SB_eq
  have hR := Rws.start w
  have HTR : Hid (∀ u, Calls Tryz.prog 59 #[.string (bs a), .string ⟨#[0]⟩] u fun e w' => e = .returned (.string (bs (trimS a))) ∧ w' = u) := Lib.hid (trim_ok a)
  have hT := trim_len a
  obtain ⟨T, hTT⟩ : ∃ T, T = trimS a := ⟨_, rfl⟩
  have hx : ofNatS a = if 512 < T.length then (.zero, 64) else (natV (padS T), 0) := by unfold ofNatS; rw [hTT]
  rw [← hTT] at HTR hT
  rw [hx]
  clear hx hTT
  have zs := bs_size T
  by_cases hl : 512 < T.length
  · have hlz : (512 : Int) < (T.length : Int) := by omega
    rw [if_pos hl]
    go_enter Tryz.func27, Tryz.ntmps27
    go_upto_region 1 with (refine wpList_alloc_rws rfl _ (by rfl) (by exact hR) (dvC .zero none 0) zero_der ?_; intro g2 w1 hR)
    go_wp2_with (first
      | (go_at_call 59; refine (HTR.out _).mono ?_; rintro e w3 ⟨rfl, rfl⟩)
      | (refine wpList_store_rws rfl _ _ _ (by rfl) (by exact hR) g2 rfl (dvC .zero none 0) (by rfl) _ _ _ (by repeat (first | exact Pick.here | apply Pick.there)) (by kernel_rfl) (by kernel_rfl) (by kernel_rfl) ?_; intro w6 hR))
    have HR := Lib.hid hR
    refine bodyPost_rws2 rfl HR.out g2 rfl _ _ (List.Mem.head _) _ Tryz.underlying24 rfl (by kernel_rfl) _ rfl rfl (fun hbz => ?_)
    exact ⟨rfl, rfl, hbz⟩
  · have hlz : ¬ (512 : Int) < (T.length : Int) := by omega
    rw [if_neg hl]
    cases T with
    | nil =>
      have hz0 : (bs ([] : Bs)).toList.isEmpty = true := by rw [bs_list]; rfl
      have hpd : padS [] = [0] := rfl
      rw [hpd]
      clear hpd
      go_enter Tryz.func27, Tryz.ntmps27
      go_upto_region 1 with (refine wpList_alloc_rws rfl _ (by rfl) (by exact hR) (dvC .zero none 0) zero_der ?_; intro g2 w1 hR)
      go_wp2_with (first
        | (go_at_call 59; refine (HTR.out _).mono ?_; rintro e w3 ⟨rfl, rfl⟩)
        | (refine wpList_store_rws rfl _ _ _ (by rfl) (by exact hR) g2 rfl (pv 2 (⟨#[0]⟩ ++ bs [])) (by rfl) _ _ _ (by repeat (first | exact Pick.here | apply Pick.there)) (by kernel_rfl) (by rfl) (pv_one _ _) ?_; intro w6 hR))
      have HR := Lib.hid hR
      refine bodyPost_rws2 rfl HR.out g2 rfl _ _ (List.Mem.head _) _ Tryz.underlying24 rfl (by kernel_rfl) _ rfl rfl (fun hbz => ?_)
      exact ⟨rfl, rfl, hbz⟩
    | cons x r =>
      have hlen : (x :: r).length = r.length + 1 := rfl
      have hget : ∀ h, (bs (x :: r))[0]'h = x := fun h => bs_get (x :: r) 0 x rfl h
      have hz : (bs (x :: r)).toList.isEmpty = false := by rw [bs_list]; rfl
      by_cases h7 : 127 < x.toNat
      · have h7z : (127 : Int) < (x.toNat : Int) := by omega
        have hpd : padS (x :: r) = 0 :: x :: r := by unfold padS; rw [if_pos (by exact Or.inr h7)]
        rw [hpd]
        clear hpd
        go_enter Tryz.func27, Tryz.ntmps27
        go_upto_region 1 with (refine wpList_alloc_rws rfl _ (by rfl) (by exact hR) (dvC .zero none 0) zero_der ?_; intro g2 w1 hR)
        go_wp2_with (first
          | (go_at_call 59; refine (HTR.out _).mono ?_; rintro e w3 ⟨rfl, rfl⟩)
          | (refine wpList_store_rws rfl _ _ _ (by rfl) (by exact hR) g2 rfl (pv 2 (⟨#[0]⟩ ++ bs (x :: r))) (by rfl) _ _ _ (by repeat (first | exact Pick.here | apply Pick.there)) (by kernel_rfl) (by rfl) (pv_one _ _) ?_; intro w6 hR))
        have HR := Lib.hid hR
        refine bodyPost_rws2 rfl HR.out g2 rfl _ _ (List.Mem.head _) _ Tryz.underlying24 rfl (by kernel_rfl) _ rfl rfl (fun hbz => ?_)
        exact ⟨rfl, rfl, hbz⟩
      · have h7z : ¬ (127 : Int) < (x.toNat : Int) := by omega
        have hpd : padS (x :: r) = x :: r := by unfold padS; rw [if_neg (by intro h; rcases h with h | h; cases h; exact h7 h)]
        rw [hpd]
        clear hpd
        go_enter Tryz.func27, Tryz.ntmps27
        go_upto_region 1 with (refine wpList_alloc_rws rfl _ (by rfl) (by exact hR) (dvC .zero none 0) zero_der ?_; intro g2 w1 hR)
        go_wp2_with (first
          | (go_at_call 59; refine (HTR.out _).mono ?_; rintro e w3 ⟨rfl, rfl⟩)
          | (refine wpList_store_rws rfl _ _ _ (by rfl) (by exact hR) g2 rfl (pv 2 (bs (x :: r))) (by rfl) _ _ _ (by repeat (first | exact Pick.here | apply Pick.there)) (by kernel_rfl) (by rfl) (pv_one _ _) ?_; intro w6 hR))
        have HR := Lib.hid hR
        refine bodyPost_rws2 rfl HR.out g2 rfl _ _ (List.Mem.head _) _ Tryz.underlying24 rfl (by kernel_rfl) _ rfl rfl (fun hbz => ?_)
        exact ⟨rfl, rfl, hbz⟩
end Go.Proofs.YtebhiplcoioenaaGreatDoor
