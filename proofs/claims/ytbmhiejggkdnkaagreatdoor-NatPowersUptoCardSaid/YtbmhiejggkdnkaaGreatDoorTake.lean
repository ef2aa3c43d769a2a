/- limbs.take and limbs.give: the walks. -/
import Derived.Test.YtbmhiejggkdnkaaGreatDoorMul
namespace Go.Proofs.YtbmhiejggkdnkaaGreatDoor
open Go.RowKit

theorem LBpos : 0 < LB := by rw [LB_eq]; omega

/-- Block g alone has been written. -/
theorem grown_set {w0 w : World} {g j : Nat} {v : Value} (h : w0.grownBy w (some g)) : w0.grownBy (w.setCell ⟨g, j, none⟩ v) (some g) :=
  ⟨h.os, h.tape, h.output, by simpa [World.setCell] using h.size, fun k hk hne => by
    rw [Below.heap_setCell _ _ _ _ (fun e => hne (by rw [e]))]
    exact h.block k hk hne⟩
theorem Rd.grown {w w' : World} {g : Nat} {k : IntKind} {ao : Option Addr} {n cap : Nat} {f : Nat → Nat} (h : Rd w k ao n cap f) (hg : w.grownBy w' (some g)) (hne : blk ao ≠ g) : Rd w' k ao n cap f :=
  ⟨h.sh, h.le, h.cm, fun j hj => hg.cell (h.cell j hj) (fun e => hne (Option.some.inj e))⟩
theorem Own.grown {w w' : World} {g0 : Nat} {k : IntKind} {e g n : Nat} {f : Nat → Nat} (h : Own w k e g n f) (hg : w.grownBy w' (some g0)) (hne : g ≠ g0) : Own w' k e g n f :=
  h.block (hg.block g h.lt (fun e => hne (Option.some.inj e)))
theorem Own.other {w : World} {k : IntKind} {e g n : Nat} {f : Nat → Nat} (h : Own w k e g n f) {g0 j : Nat} (v : Value) (hne : g ≠ g0) : Own (w.setCell ⟨g0, j, none⟩ v) k e g n f :=
  h.block (Below.heap_setCell _ _ _ _ hne)
theorem Rd.other {w : World} {k : IntKind} {ao : Option Addr} {n cap : Nat} {f : Nat → Nat} (h : Rd w k ao n cap f) {g0 j : Nat} (v : Value) (hne : blk ao ≠ g0) : Rd (w.setCell ⟨g0, j, none⟩ v) k ao n cap f :=
  ⟨h.sh, h.le, h.cm, fun i hi => (World.cell?_of_block (w := w) (Below.heap_setCell _ _ _ _ hne)).trans (h.cell i hi)⟩
theorem grown_below {B g : Nat} {w0 w w' : World} (hb : Below B w0 w) (hg : w.grownBy w' (some g)) (hB : B ≤ w.heap.size) (hBg : B ≤ g) : Below B w0 w' :=
  hb.grown hg hB (fun k h => by rw [← Option.some.inj h]; exact hBg)

/-- One round of q times V. -/
theorem scale_step {q V i cr t : Nat} (hcr : cr = q * (V % LB ^ i) / LB ^ i) (ht : t = cr + Dg.dg LB V i * q) :
    t % LB = Dg.dg LB (q * V) i ∧ t / LB = q * (V % LB ^ (i + 1)) / LB ^ (i + 1) := by
  have hp : 0 < LB ^ i := Nat.pow_pos LBpos
  have e1 : t = q * (V % LB ^ (i + 1)) / LB ^ i := by
    rw [Dg.mod_succ, Nat.mul_add, Nat.mul_left_comm q, Nat.add_mul_div_left _ _ hp, ← hcr, ht, Nat.mul_comm q]
  constructor
  · rw [e1]
    have h1 : q * V = q * (V % LB ^ (i + 1)) + LB ^ i * (LB * (q * (V / LB ^ (i + 1)))) := by
      have h2 := Nat.mod_add_div V (LB ^ (i + 1))
      have h3 : LB ^ i * (LB * (q * (V / LB ^ (i + 1)))) = q * (LB ^ (i + 1) * (V / LB ^ (i + 1))) := by
        rw [Nat.pow_succ]; simp only [Nat.mul_comm, Nat.mul_left_comm, Nat.mul_assoc]
      rw [h3, ← Nat.mul_add, h2]
    show _ = (q * V) / LB ^ i % LB
    rw [h1, Nat.add_mul_div_left _ _ hp, Nat.add_mul_mod_self_left]
  · rw [e1, Nat.div_div_eq_div_mul, ← Nat.pow_succ]

theorem scale_le {q V i : Nat} : q * (V % LB ^ i) / LB ^ i ≤ q := by
  have hp : 0 < LB ^ i := Nat.pow_pos LBpos
  refine Nat.div_le_of_le_mul ?_
  rw [Nat.mul_comm]
  exact Nat.mul_le_mul_right _ (Nat.le_of_lt (Nat.mod_lt _ hp))

theorem dg_add_pow {W L i : Nat} (hi : i < L) : Dg.dg LB (W + LB ^ L) i = Dg.dg LB W i := by
  rw [← Dg.dg_mod (B := LB) (v := W + LB ^ L) hi, ← Dg.dg_mod (B := LB) (v := W) hi, Nat.add_mod_right]
theorem bw_add_pow {W G L i : Nat} (hi : i ≤ L) : Dg.bw LB (W + LB ^ L) G i = Dg.bw LB W G i := by
  unfold Dg.bw
  obtain ⟨d, rfl⟩ : ∃ d, L = i + d := ⟨L - i, by omega⟩
  rw [Nat.pow_add, Nat.add_mul_mod_self_left]

/-- One round of taking G away from W, modulo LB ^ L. -/
theorem take_step {W G L i br s k' : Nat} (hG : G ≤ LB ^ L) (hi : i < L) (hs : Hid (s = (Dg.dg LB W i + LB - Dg.dg LB G i - br) % LB)) (hk' : Hid (k' = bor (Dg.dg LB W i) (Dg.dg LB G i) br)) (hbr : Hid (br = Dg.bw LB W G i)) :
    s = Dg.dg LB (W + LB ^ L - G) i ∧ k' = Dg.bw LB W G (i + 1) := by
  refine ⟨?_, by rw [hk'.out, hbr.out, Dg.sub_step LB W G i LBpos]; rfl⟩
  rw [Dg.dg_sub LB (W + LB ^ L) G i LBpos (by omega), dg_add_pow hi, bw_add_pow (Nat.le_of_lt hi), ← hbr.out]
  exact hs.out

set_option maxRecDepth 100000 in
set_option maxHeartbeats 800000 in
theorem take_any (g o L cap N : Nat) (f : Nat → Nat) (vo : Option Addr) (m d q V W : Nat) (w : World) (hown : Own w .u32 74 g N f) (hoL : o + L ≤ N) (hcap : L ≤ cap) (hW : ∀ j, j < L → f (o + j) = Dg.dg LB W j) (hWl : W < LB ^ L)
    (hv : Rd w .u32 vo m d (Dg.dg LB V)) (hvg : blk vo ≠ g) (hV : V < LB ^ m) (hq : q < 4294967296) (hqV : q * V < LB ^ L) (hN : N ≤ 100000000) (_hm : m ≤ 100000000) :
    Calls Tryz.prog 59 #[.slice (some ⟨g, o, none⟩) L cap, .slice vo m d, .int .u64 q] w fun e w' =>
      e = .returned (.bool (decide (W < q * V))) ∧ Own w' .u32 74 g N (fun i => if o ≤ i ∧ i < o + L then Dg.dg LB (W + LB ^ L - q * V) (i - o) else f i) ∧ w.grownBy w' (some g) := by
  obtain ⟨G, hG⟩ : ∃ G, G = q * V := ⟨_, rfl⟩
  rw [← hG] at hqV ⊢
  obtain ⟨D, hD⟩ : ∃ D, D = W + LB ^ L - G := ⟨_, rfl⟩
  rw [← hD]
  obtain ⟨R, hR⟩ : ∃ R : Bool, R = decide (W < G) := ⟨_, rfl⟩
  rw [← hR]
  have HG := Lib.hid hG; have HD := Lib.hid hD; have HR := Lib.hid hR; have HW := Lib.hid hW; have HWL := Lib.hid hWl; have HV := Lib.hid hV; have HQV := Lib.hid hqV
  clear hG hD hR hW hWl hV hqV
  have hdV : ∀ j, Dg.dg LB V j < LB := Dg.dg_lt LBpos V
  have hdG : ∀ j, Dg.dg LB G j < LB := Dg.dg_lt LBpos G
  have hdW : ∀ j, Dg.dg LB W j < LB := Dg.dg_lt LBpos W
  have HDV := Lib.hid hdV; have HDG := Lib.hid hdG; have HDW := Lib.hid hdW
  clear hdV hdG hdW
  go_enter Tryz.func59, Tryz.ntmps59
  go_wp2_with fail
  go_loopw [7, 8, 12] (fun bv cv iv wr => ∃ i br cr : Nat, i ≤ L ∧ iv = .int .i64 i ∧ bv = .int .u32 br ∧ cv = .int .u64 cr ∧ br ≤ 1 ∧ cr ≤ q ∧ Hid (br = Dg.bw LB W G i) ∧ Hid (cr = q * (V % LB ^ i) / LB ^ i) ∧
      Own wr .u32 74 g N (fun j => if o ≤ j ∧ j < o + i then Dg.dg LB D (j - o) else f j) ∧ w.grownBy wr (some g)) (fun _ _ iv _ => L - (intOf iv).toNat)
  case atStart => exact ⟨0, 0, 0, Nat.zero_le _, rfl, rfl, rfl, Nat.zero_le _, Nat.zero_le _, (Dg.bw_zero _ _ _).symm, by simp [Nat.mod_one, Hid], hown.congr fun j _ => by rw [if_neg (by omega)], World.grownBy.refl _ _⟩
  case round =>
    obtain ⟨i, br, cr, hi, rfl, rfl, rfl, hbr1, hcrq, hbr, hcr, hown, hgr⟩ := hrel
    by_cases hiL : i < L
    · have hcell : wr.cell? ⟨g, o + i, none⟩ = some (.int .u32 (Dg.dg LB W i : Nat)) := by
        have h := hown.cell (o + i) (by omega)
        rw [if_neg (by omega), HW.out i hiL] at h
        exact h
      have hfr := hown.frozen (o + i)
      obtain ⟨xk, hxk⟩ : ∃ xk, xk = Dg.dg LB W i := ⟨_, rfl⟩
      rw [← hxk] at hcell
      have hxl : xk < 4294967296 := by rw [hxk]; exact HDW.out i
      have HXK := Lib.hid hxk; clear hxk
      have hsv := hv.sh
      by_cases him : i < m
      · have hcv : wr.cell? ⟨blk vo, off vo + i, none⟩ = some (.int .u32 (Dg.dg LB V i : Nat)) := (hv.grown hgr hvg).cell i him
        obtain ⟨vk, hvk⟩ : ∃ vk, vk = Dg.dg LB V i := ⟨_, rfl⟩
        rw [← hvk] at hcv
        have hvl : vk < 4294967296 := by rw [hvk]; exact HDV.out i
        have hvq : (vk : Int) * (q : Int) ≤ 18446744065119617025 := by
          have h1 : vk * q ≤ 4294967295 * 4294967295 := Nat.mul_le_mul (by omega) (by omega)
          have h2 : ((vk * q : Nat) : Int) = (vk : Int) * (q : Int) := Int.natCast_mul _ _
          omega
        have hvq0 : 0 ≤ (vk : Int) * (q : Int) := by
          have h2 : ((vk * q : Nat) : Int) = (vk : Int) * (q : Int) := Int.natCast_mul _ _
          omega
        obtain ⟨t, ht⟩ : ∃ t, t = cr + vk * q := ⟨_, rfl⟩
        have S := scale_step hcr.out (ht.trans (by rw [hvk]))
        have hti : ((cr : Int) + (vk : Int) * (q : Int)) = (t : Nat) := by rw [ht]; simp
        obtain ⟨yk, hyk⟩ : ∃ yk, yk = t % 4294967296 := ⟨_, rfl⟩
        have hyi : ((t : Int) % 4294967296) = (yk : Nat) := by rw [hyk]; simp
        have hyG : yk = Dg.dg LB G i := by rw [hyk, HG.out]; exact S.1
        have hyl : yk < 4294967296 := by omega
        have hti2 : (t : Int) / 4294967296 = ((t / 4294967296 : Nat) : Int) := by simp
        have HVK := Lib.hid hvk; have HT := Lib.hid ht; have HTI := Lib.hid hti; have HYK := Lib.hid hyk; have HYI := Lib.hid hyi; have HYG := Lib.hid hyG; have HTI2 := Lib.hid hti2
        clear hvk ht hti hyk hyi hyG hti2
        have hcrn : t / 4294967296 ≤ q := by rw [show t / 4294967296 = _ from S.2]; exact scale_le
        have HS := Lib.hid S; clear S
        go_wp2_with (go_at_call 55; rw [HTI.out, HYI.out]; refine (sub32_any xk yk br _ hxl hyl hbr1).mono ?_; rintro e w' ⟨s, k', rfl, hs, hk', rfl⟩)
        have h1 := hs.out; rw [HXK.out, HYG.out] at h1
        have h2 := hk'.out; rw [HXK.out, HYG.out] at h2
        have R := take_step (Nat.le_of_lt HQV.out) hiL h1 h2 hbr
        have hb2 : k' ≤ 1 := by rw [R.2]; exact Dg.bw_le _ _ _ _
        go_roundw
        case rel => exact ⟨i + 1, k', t / 4294967296, by omega, by go_num, rfl, by rw [← HTI2.out], hb2, hcrn, R.2, HS.out.2, own_set_int hown rfl (by rw [if_pos (by omega), Nat.add_sub_cancel_left, HD.out]; exact R.1) (fun j hj hne => by
            by_cases h3 : o ≤ j ∧ j < o + i
            · rw [if_pos h3, if_pos (by omega)]
            · rw [if_neg h3, if_neg (by omega)]), grown_set hgr⟩
        case measure => simp [intOf]; omega
      · have hv0 : Dg.dg LB V i = 0 := Dg.dg_of_lt_le LBpos HV.out (by omega)
        obtain ⟨t, ht⟩ : ∃ t, t = cr := ⟨_, rfl⟩
        have S := scale_step hcr.out (ht.trans (by rw [hv0]; simp))
        rw [ht] at S
        clear ht hv0
        obtain ⟨yk, hyk⟩ : ∃ yk, yk = cr % 4294967296 := ⟨_, rfl⟩
        have hyi : ((cr : Int) % 4294967296) = (yk : Nat) := by rw [hyk]; simp
        have hyG : yk = Dg.dg LB G i := by rw [hyk, HG.out]; exact S.1
        have hyl : yk < 4294967296 := by omega
        have hti2 : (cr : Int) / 4294967296 = ((cr / 4294967296 : Nat) : Int) := by simp
        have hcr' : (yk : Int) = cr := by omega
        have HYK := Lib.hid hyk; have HYI := Lib.hid hyi; have HYG := Lib.hid hyG; have HTI2 := Lib.hid hti2; have HCR' := Lib.hid hcr'
        clear hyk hyi hyG hti2 hcr'
        have hcrn : cr / 4294967296 ≤ q := by omega
        have HS := Lib.hid S; clear S
        go_wp2_with (go_at_call 55; rw [← HCR'.out]; refine (sub32_any xk yk br _ hxl hyl hbr1).mono ?_; rintro e w' ⟨s, k', rfl, hs, hk', rfl⟩)
        have h1 := hs.out; rw [HXK.out, HYG.out] at h1
        have h2 := hk'.out; rw [HXK.out, HYG.out] at h2
        have R := take_step (Nat.le_of_lt HQV.out) hiL h1 h2 hbr
        have hb2 : k' ≤ 1 := by rw [R.2]; exact Dg.bw_le _ _ _ _
        go_roundw
        case rel => exact ⟨i + 1, k', cr / 4294967296, by omega, by go_num, rfl, by rw [HCR'.out, HTI2.out], hb2, hcrn, R.2, HS.out.2, own_set_int hown rfl (by rw [if_pos (by omega), Nat.add_sub_cancel_left, HD.out]; exact R.1) (fun j hj hne => by
            by_cases h3 : o ≤ j ∧ j < o + i
            · rw [if_pos h3, if_pos (by omega)]
            · rw [if_neg h3, if_neg (by omega)]), grown_set hgr⟩
        case measure => simp [intOf]; omega
    · obtain rfl : i = L := by omega
      have hres : decide (br = 1) = R := by
        rw [HR.out, hbr.out]
        unfold Dg.bw
        rw [Nat.mod_eq_of_lt HWL.out]
        rw [Nat.mod_eq_of_lt HQV.out]
        by_cases hlt : W < G
        · rw [if_pos hlt]; simp [hlt]
        · rw [if_neg hlt]; simp [hlt]
      have HRES := Lib.hid hres; clear hres
      go_wp2
      go_ret
      exact ⟨ret_bool (by rw [beq_one, HRES.out]), hown, hgr⟩

/-- One round of adding V to W. -/
theorem give_step {W V i cr s k' : Nat} (hs : Hid (s = (Dg.dg LB W i + Dg.dg LB V i + cr) % LB)) (hk' : Hid (k' = (Dg.dg LB W i + Dg.dg LB V i + cr) / LB)) (hcr : Hid (cr = Dg.cy LB W V i)) :
    s = Dg.dg LB (W + V) i ∧ k' = Dg.cy LB W V (i + 1) := add_step hs hk' hcr

set_option maxRecDepth 100000 in
set_option maxHeartbeats 800000 in
theorem give_any (g o L cap N : Nat) (f : Nat → Nat) (vo : Option Addr) (m d V W : Nat) (w : World) (hown : Own w .u32 74 g N f) (hoL : o + L ≤ N) (hcap : L ≤ cap) (hW : ∀ j, j < L → f (o + j) = Dg.dg LB W j) (hWl : W < LB ^ L)
    (hv : Rd w .u32 vo m d (Dg.dg LB V)) (hvg : blk vo ≠ g) (hV : V < LB ^ m) (hmL : m ≤ L) (hN : N ≤ 100000000) (_hm : m ≤ 100000000) :
    Calls Tryz.prog 60 #[.slice (some ⟨g, o, none⟩) L cap, .slice vo m d] w fun e w' =>
      e = .returned (.bool (decide (LB ^ L ≤ W + V))) ∧ Own w' .u32 74 g N (fun i => if o ≤ i ∧ i < o + L then Dg.dg LB (W + V) (i - o) else f i) ∧ w.grownBy w' (some g) := by
  obtain ⟨D, hD⟩ : ∃ D, D = W + V := ⟨_, rfl⟩
  rw [← hD]
  obtain ⟨R, hR⟩ : ∃ R : Bool, R = decide (LB ^ L ≤ D) := ⟨_, rfl⟩
  rw [← hR]
  have HD := Lib.hid hD; have HR := Lib.hid hR; have HW := Lib.hid hW; have HWL := Lib.hid hWl; have HV := Lib.hid hV
  clear hD hR hW hWl hV
  have hdV : ∀ j, Dg.dg LB V j < LB := Dg.dg_lt LBpos V
  have hdW : ∀ j, Dg.dg LB W j < LB := Dg.dg_lt LBpos W
  have HDV := Lib.hid hdV; have HDW := Lib.hid hdW
  clear hdV hdW
  go_enter Tryz.func60, Tryz.ntmps60
  go_wp2_with fail
  go_loopw [5, 10] (fun bv iv wr => ∃ i br : Nat, i ≤ L ∧ iv = .int .i64 i ∧ bv = .int .u32 br ∧ br ≤ 1 ∧ Hid (br = Dg.cy LB W V i) ∧
      Own wr .u32 74 g N (fun j => if o ≤ j ∧ j < o + i then Dg.dg LB D (j - o) else f j) ∧ w.grownBy wr (some g)) (fun _ iv _ => L - (intOf iv).toNat)
  case atStart => exact ⟨0, 0, Nat.zero_le _, rfl, rfl, Nat.zero_le _, (Dg.cy_zero _ _ _).symm, hown.congr fun j _ => by rw [if_neg (by omega)], World.grownBy.refl _ _⟩
  case round =>
    obtain ⟨i, br, hi, rfl, rfl, hbr1, hbr, hown, hgr⟩ := hrel
    by_cases hiL : i < L
    · have hcell : wr.cell? ⟨g, o + i, none⟩ = some (.int .u32 (Dg.dg LB W i : Nat)) := by
        have h := hown.cell (o + i) (by omega)
        rw [if_neg (by omega), HW.out i hiL] at h
        exact h
      have hfr := hown.frozen (o + i)
      obtain ⟨xk, hxk⟩ : ∃ xk, xk = Dg.dg LB W i := ⟨_, rfl⟩
      rw [← hxk] at hcell
      have hxl : xk < 4294967296 := by rw [hxk]; exact HDW.out i
      have HXK := Lib.hid hxk; clear hxk
      have hsv := hv.sh
      by_cases him : i < m
      · have hcv : wr.cell? ⟨blk vo, off vo + i, none⟩ = some (.int .u32 (Dg.dg LB V i : Nat)) := (hv.grown hgr hvg).cell i him
        obtain ⟨vk, hvk⟩ : ∃ vk, vk = Dg.dg LB V i := ⟨_, rfl⟩
        rw [← hvk] at hcv
        have hvl : vk < 4294967296 := by rw [hvk]; exact HDV.out i
        have HVK := Lib.hid hvk; clear hvk
        go_wp2_with (go_at_call 53; refine (add32_any xk vk br _ hxl hvl hbr1).mono ?_; rintro e w' ⟨s, k', rfl, hs, hk', rfl⟩)
        have h1 := hs.out; rw [HXK.out, HVK.out] at h1
        have h2 := hk'.out; rw [HXK.out, HVK.out] at h2
        have R := give_step h1 h2 hbr
        have hb2 : k' ≤ 1 := by rw [R.2]; exact Dg.cy_le LBpos _ _ _
        go_roundw
        case rel => exact ⟨i + 1, k', by omega, by go_num, rfl, hb2, R.2, own_set_int hown rfl (by rw [if_pos (by omega), Nat.add_sub_cancel_left, HD.out]; exact R.1) (fun j hj hne => by
            by_cases h3 : o ≤ j ∧ j < o + i
            · rw [if_pos h3, if_pos (by omega)]
            · rw [if_neg h3, if_neg (by omega)]), grown_set hgr⟩
        case measure => simp [intOf]; omega
      · have hvk : 0 = Dg.dg LB V i := (Dg.dg_of_lt_le LBpos HV.out (by omega)).symm
        have HVK := Lib.hid hvk; clear hvk
        go_wp2_with (go_at_call 53; refine (add32_any xk 0 br _ hxl (by omega) hbr1).mono ?_; rintro e w' ⟨s, k', rfl, hs, hk', rfl⟩)
        have h1 := hs.out; rw [HXK.out, HVK.out] at h1
        have h2 := hk'.out; rw [HXK.out, HVK.out] at h2
        have R := give_step h1 h2 hbr
        have hb2 : k' ≤ 1 := by rw [R.2]; exact Dg.cy_le LBpos _ _ _
        go_roundw
        case rel => exact ⟨i + 1, k', by omega, by go_num, rfl, hb2, R.2, own_set_int hown rfl (by rw [if_pos (by omega), Nat.add_sub_cancel_left, HD.out]; exact R.1) (fun j hj hne => by
            by_cases h3 : o ≤ j ∧ j < o + i
            · rw [if_pos h3, if_pos (by omega)]
            · rw [if_neg h3, if_neg (by omega)]), grown_set hgr⟩
        case measure => simp [intOf]; omega
    · obtain rfl : i = L := by omega
      have hres : decide (br = 1) = R := by
        have hVi : V < LB ^ i := Nat.lt_of_lt_of_le HV.out (Nat.pow_le_pow_right LBpos hmL)
        have hp : 0 < LB ^ i := Nat.pow_pos LBpos
        rw [HR.out, hbr.out, HD.out]
        unfold Dg.cy
        rw [Nat.mod_eq_of_lt HWL.out, Nat.mod_eq_of_lt hVi]
        have h1 := HWL.out
        by_cases hle : LB ^ i ≤ W + V
        · have : (W + V) / LB ^ i = 1 := by rw [Nat.div_eq_sub_div hp hle, Nat.div_eq_of_lt (by omega)]
          simp [hle, this]
        · have : (W + V) / LB ^ i = 0 := Nat.div_eq_of_lt (by omega)
          simp [hle, this]
      have HRES := Lib.hid hres; clear hres
      go_wp2
      go_ret
      exact ⟨ret_bool (by rw [beq_one, HRES.out]), hown, hgr⟩
end Go.Proofs.YtbmhiejggkdnkaaGreatDoor
