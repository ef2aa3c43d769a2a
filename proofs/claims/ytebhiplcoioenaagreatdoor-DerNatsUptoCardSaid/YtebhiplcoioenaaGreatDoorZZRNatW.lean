/- ostiaryref06.Nat, Bits: the walks. -/
import Derived.Test.YtebhiplcoioenaaGreatDoorZZR3
import Derived.Test.YtebhiplcoioenaaGreatDoorZZRCheck
import Derived.Test.YtebhiplcoioenaaGreatDoorZZRFine
import Derived.Test.YtebhiplcoioenaaGreatDoorZDI
import Derived.Lib.TrimByte
namespace Go.Proofs.YtebhiplcoioenaaGreatDoor
open Go.RowKit

theorem r3_of (a : Bs) (w : World) (ha : a.length ≤ 1048576) : Calls Tryz.prog 31 #[.string (bs a)] w fun e w' => ∃ ro k cap, e = .returned (.slice ro k cap) ∧ Hid (Num.RN w' ro k cap (Num.bv a)) ∧ k ≤ 1048576 ∧ Below w.heap.size w w' := by
  have hz := bs_size a
  refine (Num.of_any (bs a) w (by omega)).mono fun e w' hh => ?_
  obtain ⟨ro, k, cap, he, hn, hb⟩ := hh
  have hd : (bs a).data.toList = a := bs_data a
  rw [hd] at hn
  have hk : k ≤ a.length := hn.le (by
    have h1 := Num.bv_lt a
    refine Nat.lt_of_lt_of_le h1 ?_
    rw [Num.DB_eq]
    exact Nat.pow_le_pow_left (by omega) _)
  exact ⟨ro, k, cap, he, Lib.hid hn, by omega, hb⟩
theorem r3_form (a : Bs) (ro : Option Addr) (k cap : Nat) (w u : World) (h : Hid (Num.RN w ro k cap (Num.bv a))) (hk : k ≤ 1048576) (hb : Below w.heap.size w u) : Calls Tryz.prog 30 #[.slice ro k cap] u fun e w' => e = .returned (.string (bs (trimS a))) ∧ Below u.heap.size u w' := by
  have h1 := Num.rform_any ro k cap (Num.bv a) u (h.out.below hb (Nat.le_refl _)) (by omega)
  rw [← Num.trim_fm] at h1
  exact h1
theorem rcheck_2 (v : Dv) (ad : Option Addr) (cp : Nat) (w : World) (hb : v.b.length ≤ 1048576) : v.c = 0 → v.t = 2 → ∀ u, Below w.heap.size w u → Calls Tryz.prog 50 #[dvv v ad cp] u (RetI v.check u) := by
  obtain ⟨c, t, k, b, l⟩ := v
  intro hc ht u hu
  simp only at hc ht hb
  subst hc ht
  have hSB := SB_eq
  exact rCheck_prim 2 k b l ad cp u (by decide) (fun _ => hb) (fun u2 _ => rfine_2 b u2 (by omega))
theorem rcheck_3 (v : Dv) (ad : Option Addr) (cp : Nat) (w : World) (hb : v.b.length ≤ 1048576) : v.c = 0 → v.t = 3 → ∀ u, Below w.heap.size w u → Calls Tryz.prog 50 #[dvv v ad cp] u (RetI v.check u) := by
  obtain ⟨c, t, k, b, l⟩ := v
  intro hc ht u hu
  simp only at hc ht hb
  subst hc ht
  have hSB := SB_eq
  exact rCheck_prim 3 k b l ad cp u (by decide) (fun _ => hb) (fun u2 _ => rfine_3 b u2 (by omega))
set_option maxRecDepth 100000 in
set_option maxHeartbeats 4000000 in
theorem RNat_any (v : Dv) (ad : Option Addr) (cp : Nat) (w : World) (hb : v.b.length ≤ 1048576) : Calls Tryz.prog 26 #[dvv v ad cp] w fun e w' => e = .returned (.tuple #[.string (bs (natS v).1), .int .i64 (natS v).2]) ∧ Below w.heap.size w w' := by
  have hR := Rws.start w
  have HKI : Hid (∀ u, Below w.heap.size w u → Calls Tryz.prog 42 #[dvv v ad cp, .int .i64 2] u (RetB (v.isK 2) u)) := Lib.hid fun u hu => rkind_any v ad cp 2 u (fun h1 h2 u2 hu2 => rcheck_2 v ad cp u hb h1 h2 u2 hu2)
  cases hB : v.isK 2 with
  | false =>
    have hx : natS v = ([], 65) := by unfold natS; rw [if_neg (by rw [hB]; decide)]
    rw [hx]
    rw [hB] at HKI
    obtain ⟨c, t, k, b, l⟩ := v
    clear hx hB hb
    go_enter Tryz.func26, Tryz.ntmps26
    go_upto_region 1 with (refine wpList_box_rws rfl _ _ (by rfl) (by exact hR) (dvC ⟨c, t, k, b, l⟩ ad cp) rfl ?_; intro gb w1 hR)
    go_wp2_with (first
      | (refine wpList_load_rws rfl _ _ (by rfl) (by exact hR) gb rfl (dvC ⟨c, t, k, b, l⟩ ad cp) _ (List.Mem.head _) _ Tryz.underlying24 rfl (by kernel_rfl) ?_)
      | (go_at_call 42; refine (HKI.out _ hR.below).mono ?_; rintro e w2 ⟨rfl, hb2⟩; have hR := hR.call hb2))
    go_ret2
    exact ⟨rfl, hR.below⟩
  | true =>
    rw [hB] at HKI
    have h2 := (prim_ok hB (by decide)).2.1
    rw [fine_int] at h2
    obtain ⟨c, t, k, b, l⟩ := v
    simp only at h2 hb
    cases b with
    | nil => cases h2
    | cons x r =>
      have hx : natS ⟨c, t, k, x :: r, l⟩ = if 127 < x.toNat then ([], 61) else (trimS (x :: r), 0) := by
        unfold natS
        rw [if_pos hB]
        rfl
      rw [hx]
      have zs := bs_size (x :: r)
      have hlen : (x :: r).length = r.length + 1 := rfl
      have hget : ∀ h, (bs (x :: r))[0]'h = x := fun h => bs_get (x :: r) 0 x rfl h
      have HBB := Lib.hid hb
      clear hx hB h2 hb
      by_cases h7 : 127 < x.toNat
      · rw [if_pos h7]
        have h7z : ¬ (x.toNat : Int) < 128 := by omega
        go_enter Tryz.func26, Tryz.ntmps26
        go_upto_region 1 with (refine wpList_box_rws rfl _ _ (by rfl) (by exact hR) (dvC ⟨c, t, k, x :: r, l⟩ ad cp) rfl ?_; intro gb w1 hR)
        go_upto_region 3 with (first
          | (refine wpList_load_rws rfl _ _ (by rfl) (by exact hR) gb rfl (dvC ⟨c, t, k, x :: r, l⟩ ad cp) _ (List.Mem.head _) _ Tryz.underlying24 rfl (by kernel_rfl) ?_)
          | (go_at_call 42; refine (HKI.out _ hR.below).mono ?_; rintro e w2 ⟨rfl, hb2⟩; have hR := hR.call hb2))
        have f3 := hR.cellAt (g := gb) (List.Mem.head _) 3 rfl
        go_wp2_with fail
        go_ret2
        exact ⟨rfl, hR.below⟩
      · rw [if_neg h7]
        have h7z : (x.toNat : Int) < 128 := by omega
        go_enter Tryz.func26, Tryz.ntmps26
        go_upto_region 1 with (refine wpList_box_rws rfl _ _ (by rfl) (by exact hR) (dvC ⟨c, t, k, x :: r, l⟩ ad cp) rfl ?_; intro gb w1 hR)
        go_upto_region 3 with (first
          | (refine wpList_load_rws rfl _ _ (by rfl) (by exact hR) gb rfl (dvC ⟨c, t, k, x :: r, l⟩ ad cp) _ (List.Mem.head _) _ Tryz.underlying24 rfl (by kernel_rfl) ?_)
          | (go_at_call 42; refine (HKI.out _ hR.below).mono ?_; rintro e w2 ⟨rfl, hb2⟩; have hR := hR.call hb2))
        have f3 := hR.cellAt (g := gb) (List.Mem.head _) 3 rfl
        go_wp2_with (first
          | (go_at_call 31; refine (r3_of (x :: r) _ HBB.out).mono ?_; rintro e w3 ⟨ro, k3, c3, rfl, hN, hk3, hb3⟩; have hR := hR.call hb3)
          | (go_at_call 30; refine (r3_form (x :: r) ro k3 c3 w3 _ hN hk3 (Below.refl _ _)).mono ?_; rintro e w4 ⟨rfl, hb4⟩; have hR := hR.call hb4))
        go_ret2
        exact ⟨rfl, hR.below⟩
set_option maxRecDepth 100000 in
set_option maxHeartbeats 4000000 in
theorem RBits_any (v : Dv) (ad : Option Addr) (cp : Nat) (w : World) (hb : v.b.length ≤ 1048576) : Calls Tryz.prog 29 #[dvv v ad cp] w fun e w' => e = .returned (.tuple #[.string (bs (bitsS v).1), .int .i64 (bitsS v).2.1, .int .i64 (bitsS v).2.2]) ∧ Below w.heap.size w w' := by
  have hR := Rws.start w
  have hSB := SB_eq
  have HKI : Hid (∀ u, Below w.heap.size w u → Calls Tryz.prog 42 #[dvv v ad cp, .int .i64 3] u (RetB (v.isK 3) u)) := Lib.hid fun u hu => rkind_any v ad cp 3 u (fun h1 h2 u2 hu2 => rcheck_3 v ad cp u hb h1 h2 u2 hu2)
  cases hB : v.isK 3 with
  | false =>
    have hx : bitsS v = ([], 0, 65) := by unfold bitsS; rw [if_neg (by rw [hB]; decide)]
    rw [hx]
    rw [hB] at HKI
    obtain ⟨c, t, k, b, l⟩ := v
    clear hx hB hb
    go_enter Tryz.func29, Tryz.ntmps29
    go_upto_region 1 with (refine wpList_box_rws rfl _ _ (by rfl) (by exact hR) (dvC ⟨c, t, k, b, l⟩ ad cp) rfl ?_; intro gb w1 hR)
    go_wp2_with (first
      | (refine wpList_load_rws rfl _ _ (by rfl) (by exact hR) gb rfl (dvC ⟨c, t, k, b, l⟩ ad cp) _ (List.Mem.head _) _ Tryz.underlying24 rfl (by kernel_rfl) ?_)
      | (go_at_call 42; refine (HKI.out _ hR.below).mono ?_; rintro e w2 ⟨rfl, hb2⟩; have hR := hR.call hb2))
    go_ret3
    exact ⟨rfl, hR.below⟩
  | true =>
    rw [hB] at HKI
    have h2 := (prim_ok hB (by decide)).2.1
    rw [fine_bits] at h2
    obtain ⟨c, t, k, b, l⟩ := v
    simp only at h2 hb
    cases b with
    | nil => cases h2
    | cons x r =>
      have hx : bitsS ⟨c, t, k, x :: r, l⟩ = (r, x.toNat, 0) := by
        unfold bitsS
        rw [if_pos hB]
        rfl
      rw [hx]
      have zs := bs_size (x :: r)
      have hlen : (x :: r).length = r.length + 1 := rfl
      have hget : ∀ h, (bs (x :: r))[0]'h = x := fun h => bs_get (x :: r) 0 x rfl h
      have hcut : ∀ n, r.length + 1 ≤ n → (bs (x :: r)).extract 1 n = bs r := fun n hn => by rw [bs_cut, List.take_of_length_le (by simpa using hn)]; rfl
      have HCU := Lib.hid hcut
      clear hx hB h2 hcut
      go_enter Tryz.func29, Tryz.ntmps29
      go_upto_region 1 with (refine wpList_box_rws rfl _ _ (by rfl) (by exact hR) (dvC ⟨c, t, k, x :: r, l⟩ ad cp) rfl ?_; intro gb w1 hR)
      go_upto_region 3 with (first
        | (refine wpList_load_rws rfl _ _ (by rfl) (by exact hR) gb rfl (dvC ⟨c, t, k, x :: r, l⟩ ad cp) _ (List.Mem.head _) _ Tryz.underlying24 rfl (by kernel_rfl) ?_)
        | (go_at_call 42; refine (HKI.out _ hR.below).mono ?_; rintro e w2 ⟨rfl, hb2⟩; have hR := hR.call hb2))
      have f3 := hR.cellAt (g := gb) (List.Mem.head _) 3 rfl
      have hwr : Go.RowKit.wrap64 ((x.toNat : Nat) : Int) = ((x.toNat : Nat) : Int) := IntWalk.wrap64_in _ (by have := x.toNat_lt; omega)
      go_quiet (fail)
      go_wp2_with fail
      go_ret3
      rw [hwr, HCU.out _ (Nat.le_refl _)]
      exact ⟨rfl, below_drawn hR.below _⟩
end Go.Proofs.YtebhiplcoioenaaGreatDoor
