/- R2Top QFine QBas QVer0, in one text. -/
import Derived.Test.YtaggpodckafbgaaGreatDoorZR2Sum
import Derived.Test.YtaggpodckafbgaaGreatDoorZQTimes
import Derived.Test.YtaggpodckafbgaaGreatDoorZA0
/- The reference of hash (layer 2): Sum of 256 bits: the walk. -/
namespace Go.Proofs.YtaggpodckafbgaaGreatDoor
open Go.RowKit
set_option maxRecDepth 100000 in
set_option maxHeartbeats 1600000 in
theorem r2sum_any (s : ByteArray) (w : World) (hs : s.size + 80 ≤ 140737488355328) :
    Calls Tryz.prog 94 #[.int .i64 0, .string s] w fun e w' => e = .returned (.tuple #[.string (sha s), .int .i64 0]) ∧ Below w.heap.size w w' := by
  go_enter Tryz.func94, Tryz.ntmps94
  go_wp2_with fail
  refine (r2of_any _).mono ?_
  rintro e w1 ⟨gk, ck, gf, cf, rfl, hrk, hrf, hb1⟩
  have hR0 := Rws.start w1
  obtain ⟨kd, hkd⟩ : ∃ kd, kd = kdc (.slice (some ⟨gk, 0, none⟩) 64 ck) (.slice (some ⟨gf, 0, none⟩) 8 cf) := ⟨_, rfl⟩
  have hkds : kd.size = 17 := by rw [hkd]; rfl
  have hkdc : kd.all (·.oneCell') = true := by rw [hkd]; simp [kdc, Value.oneCell']
  have hsum : ∀ w, Rd w .u64 (some ⟨gk, 0, none⟩) 64 ck kF → Rd w .u64 (some ⟨gf, 0, none⟩) 8 cf firstF → Calls Tryz.prog 125 #[.agg kd, .string s] w fun e w' => e = .returned (.string (sha s)) ∧ Below w.heap.size w w' := fun w h1 h2 => by rw [hkd]; exact r2ksum_any s gk ck gf cf w hs h1 h2
  rw [← hkd]
  have HSUM := Lib.hid hsum; have HS := Lib.hid hkds; have HC := Lib.hid hkdc
  clear hkd hkds hkdc hsum
  go_wp2_with (first
    | (refine wpList_alloc_rws (cs := zkd) rfl _ (by rfl) (by assumption) zero_kd ?_; intro g6 w2 hR)
    | (refine wpList_store_rws rfl _ _ _ (by rfl) (by assumption) _ rfl kd rfl _ _ _ (by repeat (first | exact Pick.here | apply Pick.there)) (by rw [HS.out]; exact kd_info) (by rw [HS.out]; rfl) HC.out ?_; intro w3 hR3)
    | (refine wpList_load_rws rfl _ _ (by rfl) (by assumption) _ rfl kd _ (by repeat (first | exact pzH | refine pzM ?_)) _ Tryz.underlying152 rfl (by rw [HS.out]; exact kd_info) ?_))
  have hb3 := hR3.below
  have hsz := hb1.size
  refine (HSUM.out _ (hrk.below hb3 (Nat.le_refl _)) (hrf.below hb3 (Nat.le_refl _))).mono ?_
  rintro e w4 ⟨rfl, hb4⟩
  have hres := (hb1.trans (hb3.mono hsz)).trans (hb4.mono (Nat.le_trans hsz hb3.size))
  go_wp2_with fail
  go_ret2
  exact ⟨rfl, hres⟩
end Go.Proofs.YtaggpodckafbgaaGreatDoor
/- The reference's fine (layer 5): the walk. -/
namespace Go.Proofs.YtaggpodckafbgaaGreatDoor
open Go.RowKit
set_option maxRecDepth 100000 in
theorem rfine_any (ao : Option Addr) (n c v : Nat) (w : World) (hV : QN w ao n c v) : Calls Tryz.prog 51 #[.slice ao n c] w fun e w' => e = .returned (.bool (decide (v ≠ 0 ∧ v < Ec.N))) ∧ Below w.heap.size w w' := by
  have hV0 : QN (w.alloc (.cells #[] 64)) ao n c v := hV.below ((Below.refl _ _).alloc (Nat.le_refl _) _) (Nat.le_refl _)
  have hZ : QN (w.alloc (.cells #[] 64)) (some ⟨w.heap.size, 0, none⟩) 0 0 0 := ⟨(Dg.len_zero _).symm, ⟨Sh.some _ _ _, Nat.le_refl _, by omega, fun j hj => absurd hj (Nat.not_lt_zero j)⟩⟩
  have hC := qcmp_any _ _ _ _ _ _ _ _ _ hV0 hZ
  have hA : Below w.heap.size w (w.alloc (.cells #[] 64)) := (Below.refl _ _).alloc (Nat.le_refl _) _
  by_cases h0 : v = 0
  · have e1 : cmpN v 0 = 0 := by rw [h0]; exact cmpN_eq 0
    have e2 : decide (v ≠ 0 ∧ v < Ec.N) = false := decide_eq_false (fun h => h.1 h0)
    rw [e1] at hC
    rw [e2]
    have HC := Lib.hid hC
    clear h0 e1 e2 hC hV hV0 hZ
    go_enter Tryz.func51, Tryz.ntmps51
    go_wp2_with fail
    refine (HC.out).mono ?_
    rintro e w1 ⟨rfl, q, rfl⟩
    go_wp2_with fail
    go_ret
    exact ⟨rfl, below_drewN hA q⟩
  · have e1 : cmpN v 0 = 1 := cmpN_gt (by omega)
    rw [e1] at hC
    have e3 : decide (cmpN v Ec.N < 0) = decide (v ≠ 0 ∧ v < Ec.N) := by
      refine decide_eq_decide.2 ⟨fun h => ⟨h0, ?_⟩, fun h => by rw [cmpN_lt h.2]; decide⟩
      rcases Nat.lt_or_ge v Ec.N with h1 | h1
      · exact h1
      · exfalso
        rcases Nat.lt_or_ge Ec.N v with h2 | h2
        · rw [cmpN_gt h2] at h; exact absurd h (by decide)
        · rw [show v = Ec.N by omega, cmpN_eq] at h; exact absurd h (by decide)
    rw [← e3]
    obtain ⟨x, hx⟩ : ∃ x, x = cmpN v Ec.N := ⟨_, rfl⟩
    have HC := Lib.hid hC; have HV0 := Lib.hid hV0; have HX := Lib.hid hx
    rw [← hx]
    clear h0 e1 e3 hC hV hV0 hZ hx
    go_enter Tryz.func51, Tryz.ntmps51
    go_wp2_with fail
    refine (HC.out).mono ?_
    rintro e w1 ⟨rfl, q, rfl⟩
    go_wp2_with fail
    refine (qmod_any 1 _).mono ?_
    rintro e w2 ⟨mo, n2, c2, rfl, h2, hb2⟩
    have hpp : pp 1 = Ec.N := if_neg (by decide)
    rw [hpp] at h2
    have hV2 := (HV0.out.drewN q).below hb2 (Nat.le_refl _)
    go_wp2_with fail
    have hC2 := qcmp_any _ _ _ _ _ _ _ _ _ hV2 h2
    rw [← HX.out] at hC2
    refine hC2.mono ?_
    rintro e w3 ⟨rfl, q2, rfl⟩
    go_wp2_with fail
    go_ret
    exact ⟨rfl, below_drewN ((below_drewN hA q).trans (hb2.mono (by simp))) q2⟩
end Go.Proofs.YtaggpodckafbgaaGreatDoor
/- The reference's Base (layer 5): the walk. -/
namespace Go.Proofs.YtaggpodckafbgaaGreatDoor
open Go.RowKit
theorem dl_gx : (#[.int .u32 49814, .int .u32 55448, .int .u32 14661, .int .u32 62625, .int .u32 13216, .int .u32 11755, .int .u32 32129, .int .u32 30467, .int .u32 16626, .int .u32 25508, .int .u32 59109, .int .u32 63676, .int .u32 16967, .int .u32 57644, .int .u32 53746, .int .u32 27415] : Array Value).toList = (dl Ec.gx.val 16).map fun c => Value.int .u32 (c : Nat) := by
  have h : dl Ec.gx.val 16 = [49814, 55448, 14661, 62625, 13216, 11755, 32129, 30467, 16626, 25508, 59109, 63676, 16967, 57644, 53746, 27415] := by decide +kernel
  rw [h]; rfl
theorem len_gx : 16 = Dg.len DB Ec.gx.val := by decide +kernel
theorem dl_gy : (#[.int .u32 20981, .int .u32 14271, .int .u32 16488, .int .u32 52150, .int .u32 24270, .int .u32 27441, .int .u32 13143, .int .u32 11214, .int .u32 40470, .int .u32 31759, .int .u32 60234, .int .u32 36583, .int .u32 32667, .int .u32 65050, .int .u32 17122, .int .u32 20451] : Array Value).toList = (dl Ec.gy.val 16).map fun c => Value.int .u32 (c : Nat) := by
  have h : dl Ec.gy.val 16 = [20981, 14271, 16488, 52150, 24270, 27441, 13143, 11214, 40470, 31759, 60234, 36583, 32667, 65050, 17122, 20451] := by decide +kernel
  rw [h]; rfl
theorem len_gy : 16 = Dg.len DB Ec.gy.val := by decide +kernel
set_option maxRecDepth 100000 in
theorem rbase_any (w : World) : Calls Tryz.prog 53 #[] w (RetPt w Ec.G) := by
  have HX := Lib.hid (show ∀ w : World, QV (w.alloc (.cells #[.int .u32 49814, .int .u32 55448, .int .u32 14661, .int .u32 62625, .int .u32 13216, .int .u32 11755, .int .u32 32129, .int .u32 30467, .int .u32 16626, .int .u32 25508, .int .u32 59109, .int .u32 63676, .int .u32 16967, .int .u32 57644, .int .u32 53746, .int .u32 27415] 64)) (.slice (some ⟨w.heap.size, 0, none⟩) 16 16) Ec.gx.val from fun w => QV.mk (QN.lit dl_gx len_gx (by decide)) (F_lt Ec.gx))
  have HY := Lib.hid (show ∀ w : World, QV (w.alloc (.cells #[.int .u32 20981, .int .u32 14271, .int .u32 16488, .int .u32 52150, .int .u32 24270, .int .u32 27441, .int .u32 13143, .int .u32 11214, .int .u32 40470, .int .u32 31759, .int .u32 60234, .int .u32 36583, .int .u32 32667, .int .u32 65050, .int .u32 17122, .int .u32 20451] 64)) (.slice (some ⟨w.heap.size, 0, none⟩) 16 16) Ec.gy.val from fun w => QV.mk (QN.lit dl_gy len_gy (by decide)) (F_lt Ec.gy))
  have hR0 := Rws.start w
  go_enter Tryz.func53, Tryz.ntmps53
  go_upto_region 1 with (refine wA_alloc rfl _ (by rfl) (by assumption) _ zero_pt ?_; intro ga w1 hR hbA)
  have hX1 := HX.out w1
  have hR1 := hR.alloc0 (.cells #[.int .u32 49814, .int .u32 55448, .int .u32 14661, .int .u32 62625, .int .u32 13216, .int .u32 11755, .int .u32 32129, .int .u32 30467, .int .u32 16626, .int .u32 25508, .int .u32 59109, .int .u32 63676, .int .u32 16967, .int .u32 57644, .int .u32 53746, .int .u32 27415] 64)
  generalize hwA : w1.alloc (.cells #[.int .u32 49814, .int .u32 55448, .int .u32 14661, .int .u32 62625, .int .u32 13216, .int .u32 11755, .int .u32 32129, .int .u32 30467, .int .u32 16626, .int .u32 25508, .int .u32 59109, .int .u32 63676, .int .u32 16967, .int .u32 57644, .int .u32 53746, .int .u32 27415] 64) = wA at hX1 hR1
  have hY1 := HY.out wA
  have hYs : wA.heap.size = w1.heap.size + 1 := by rw [← hwA]; simp
  have hX2 := hX1.below ((Below.refl wA.heap.size wA).alloc (Nat.le_refl _) (.cells #[.int .u32 20981, .int .u32 14271, .int .u32 16488, .int .u32 52150, .int .u32 24270, .int .u32 27441, .int .u32 13143, .int .u32 11214, .int .u32 40470, .int .u32 31759, .int .u32 60234, .int .u32 36583, .int .u32 32667, .int .u32 65050, .int .u32 17122, .int .u32 20451] 64))
  have hR2 := hR1.alloc0 (.cells #[.int .u32 20981, .int .u32 14271, .int .u32 16488, .int .u32 52150, .int .u32 24270, .int .u32 27441, .int .u32 13143, .int .u32 11214, .int .u32 40470, .int .u32 31759, .int .u32 60234, .int .u32 36583, .int .u32 32667, .int .u32 65050, .int .u32 17122, .int .u32 20451] 64)
  rw [hYs] at hY1
  clear hYs
  subst hwA
  clear HX HY
  go_wp2_with (first
    | (refine wB_build (xs := [(1, .tmp 1), (2, .tmp 2)]) rfl (by rfl) (by exact built_at hX2 hY1) ?_)
    | (refine wB_store rfl (by rfl) (by exact hR2) rfl rfl (by repeat (first | exact Pick.here | apply Pick.there)) (by exact pt_info (by rfl)) (by rfl) (by exact PtC.cells (A := Ec.Pt.at Ec.gx Ec.gy) ⟨_, _, rfl, hX2, hY1⟩) ?_; intro w3 hR3 hbt hrr))
  exact wQ_end Tryz.results53 hR3 rfl (List.Mem.head _) rfl rfl fun hb => RetPt.mk (PtC.but (A := Ec.Pt.at Ec.gx Ec.gy) ⟨_, _, rfl, hX2, hY1⟩ hbt hrr zpt_noint) hb
end Go.Proofs.YtaggpodckafbgaaGreatDoor
/- The reference's sum (layer 5): the walk. -/
namespace Go.Proofs.YtaggpodckafbgaaGreatDoor
open Go.RowKit
set_option maxRecDepth 100000 in
theorem rsumh_any (s : ByteArray) (w : World) (hs : s.size + 80 ≤ 140737488355328) : Calls Tryz.prog 55 #[.string s] w (RetQN w (nv (sha s) % pp 1)) := by
  obtain ⟨S, hS⟩ : ∃ S, S = sha s := ⟨_, rfl⟩
  have hsz : S.size ≤ 10000000 := by rw [hS, sha_size]; omega
  have H1 := Lib.hid (fun w => r2sum_any s w hs)
  rw [← hS] at H1 ⊢
  have HR := Lib.hid (fun w => qread_any S w hsz)
  have h32 : nv S < 115792089237316195423570985008687907853269984665640564039457584007913129639936 := nv_lt32 (by rw [hS, sha_size]; exact Nat.le_refl _)
  have H32 := Lib.hid h32
  clear hS h32 hsz
  go_enter Tryz.func55, Tryz.ntmps55
  go_wp2_with fail
  refine (H1.out _).mono ?_
  rintro e w1 ⟨rfl, hb1⟩
  go_wp2_with fail
  refine (HR.out _).mono ?_
  rintro e w2 ⟨ro, n1, c1, rfl, h1, hb2⟩
  have h1 : QN w2 ro n1 c1 (nv S) := h1
  have hn1 := h1.size H32.out
  go_wp2_with fail
  refine (qmod_any 1 _).mono ?_
  rintro e w3 ⟨mo, n2, c2, rfl, h2, hb3⟩
  have h1' := h1.below hb3 (Nat.le_refl _)
  have hn2 := pp_size h2
  go_wp2_with fail
  refine (qleft_any _ _ _ _ _ _ _ _ _ h1' h2 (pp_pos 1) (by omega) (by omega)).mono ?_
  rintro e w4 ⟨ro3, n3, c3, rfl, h3, hb4⟩
  have s1 := hb1.size; have s2 := hb2.size; have s3 := hb3.size
  go_wp2_with fail
  go_ret
  exact ⟨_, _, _, rfl, h3, ((hb1.trans (hb2.mono s1)).trans (hb3.mono (by omega))).trans (hb4.mono (by omega))⟩
end Go.Proofs.YtaggpodckafbgaaGreatDoor
